/- quartoref07.checks, Transform, Pair, Merge: what they return. Condition: the pieces read as values of their types; the results cover at most 49000 bytes. -/
import Derived.Test.YtdlbjfgpfjcpaaaRef7c
import Derived.Test.YtdlbjfgpfjcpaaaPairs7
import Derived.Test.YtdlbjfgpfjcpaaaRef5c
import Derived.Test.YtdlbjfgpfjcpaaaAtoms
namespace Go.Proofs.Ytdlbjfgpfjcpaaa
open Go.RowKit

theorem lg_out : ∀ (l : List Pc) (n : Int), Val l → 0 ≤ n → lgR n l < 6000 → n + inL l ≤ lgR n l ∧ n + outL l ≤ lgR n l ∧ n + l.length ≤ lgR n l := by
  intro l
  induction l with
  | nil => intro n _ h0 h; simp [lgR, inL, outL]
  | cons p r ih =>
    intro n hv h0 h
    obtain ⟨v1, v2⟩ := Val.cons.1 hv
    rw [lgR] at h ⊢
    by_cases hn : n < 6000
    · rw [if_pos hn] at h ⊢
      have hs : 0 ≤ lgStep n p := by unfold lgStep; omega
      obtain ⟨i1, i2, i3⟩ := ih _ v2 hs h
      have hin := v2.inL
      have hou : 0 ≤ outL r := by
        have := v2.atoms_len 0
        omega
      simp only [inL, outL, List.length_cons]
      unfold lgStep at i1 i2 i3 hs h ⊢
      rcases Pc.valid_cases v1 with ⟨x, y, z⟩ | ⟨x, y, z⟩ | ⟨x, y, z⟩
      · simp only [Pc.out, x]; simp only [z] at *; simp at *; omega
      · simp only [Pc.out, x]; simp only [z] at *; simp at *; omega
      · simp only [Pc.out, x]; simp only [y] at *; simp at *; omega
    · rw [if_neg hn] at h
      omega
theorem small_out {l : List Pc} (h : largeB l = false) (h0 : errL l = 0) : outL l ≤ 6000 := by
  have h1 : lgR 0 l < 6000 := by
    have := of_decide_eq_false h
    omega
  have := (lg_out l 0 ((errL_iff l).1 h0).2.1 (by omega) h1).2.1
  omega

theorem row_cells5 {w : World} {B n : Nat} {v : Value} {ys : List Value} (h : w.ownsRow B 31 3 v n ys) {i : Nat} (hi : i < n) :
    ∃ g cap u0 u1 u2, v = .slice (some ⟨g, 0, none⟩) n cap ∧ B ≤ g ∧ g < w.heap.size ∧ w.cell? ⟨g, i * 3, none⟩ = some u0 ∧ w.cell? ⟨g, i * 3 + 1, none⟩ = some u1 ∧ w.cell? ⟨g, i * 3 + 2, none⟩ = some u2 ∧ w.frozen? ⟨g, i * 3, none⟩ = false ∧ w.frozen? ⟨g, i * 3 + 1, none⟩ = false ∧ w.frozen? ⟨g, i * 3 + 2, none⟩ = false := by
  have hlen := h.1
  rcases h.2 with ⟨rfl, h0⟩ | ⟨g, cap, cur, rfl, hB, hg, _⟩
  · omega
  · have hc : ∀ j, (hj : i * 3 + j < ys.length) → w.cell? ⟨g, i * 3 + j, none⟩ = some ys[i * 3 + j] := fun j hj => by
      have := h.cells (g := g) rfl (i * 3 + j) _ (List.getElem?_eq_getElem hj)
      rw [add_flat] at this
      simpa using this
    exact ⟨g, cap, _, _, _, rfl, hB, heap_lt hg, hc 0 (by omega), hc 1 (by omega), hc 2 (by omega), Lib.frozen_of_heap hg _, Lib.frozen_of_heap hg _, Lib.frozen_of_heap hg _⟩

theorem wf_val {l : List Pc} (h : Val l) (h1 : inL l ≤ 1000000000000) (h2 : outL l ≤ 1000000000000) : ∀ p, p ∈ l → p.wf := by
  induction l with
  | nil => intro p hp; cases hp
  | cons q r ih =>
    obtain ⟨v1, v2⟩ := Val.cons.1 h
    have i1 := Val.inL v2
    have o1 := Val.outL v2
    have n1 := Val.n v1
    have k1 := Val.out v1
    simp only [inL] at h1
    simp only [outL] at h2
    intro p hp
    rcases List.mem_cons.1 hp with rfl | hp
    · have ht : (p.t.length : Int) ≤ 1000000000000 := by
        rcases Pc.valid_cases v1 with ⟨x, y, z⟩ | ⟨x, y, z⟩ | ⟨x, y, z⟩
        · rw [z]; simp
        · rw [z]; simp
        · have : p.out = p.t.length := by simp [Pc.out, x]
          omega
      refine ⟨?_, ?_, by omega, by omega, by omega⟩
      · rcases Pc.valid_cases v1 with ⟨x, y, z⟩ | ⟨x, y, z⟩ | ⟨x, y, z⟩ <;> omega
      · rcases Pc.valid_cases v1 with ⟨x, y, z⟩ | ⟨x, y, z⟩ | ⟨x, y, z⟩ <;> omega
    · exact ih v2 (by omega) (by omega) p hp

set_option maxHeartbeats 4000000 in
set_option maxRecDepth 100000 in
theorem checks7_any (v u : Value) (a b : List Pc) (w : World) (h : Sl pcE w v a) (k : Sl pcE w u b) (ha : ∀ p, p ∈ a → p.wf) (hb : ∀ p, p ∈ b → p.wf) :
    Calls Try.prog 83 #[v, u] w fun e w' => e = .returned (.int .i64 (prE a b)) ∧ Below w.heap.size w w' := by
  have cA := fun w h => refLengths_any v a w h ha
  have cB := fun w h => refLengths_any u b w h hb
  have H := Lib.hid h; have K := Lib.hid k
  by_cases h0 : errL a = 0
  · rw [lensV_fine h0] at cA
    by_cases h1 : errL b = 0
    · rw [lensV_fine h1] at cB
      by_cases h2 : inL a = inL b
      · have hE : prE a b = 0 := by simp [prE, h0, h1, h2]
        rw [hE]
        rw [h2] at cA
        generalize inL b = I at *
        have CA := Lib.hid cA; have CB := Lib.hid cB
        clear cA cB hE h2 h0 h1 ha hb h k
        go_enter Try.func83, Try.ntmps83
        go_wp2_with fail
        refine (CA.out _ H.out).mono ?_
        rintro e w1 ⟨rfl, hb⟩
        have K_1 := Lib.hid (K.out.ext hb)
        have B_1 := Lib.hid hb
        clear hb H K
        go_wp2_with fail
        refine (CB.out _ K_1.out).mono ?_
        rintro e w2 ⟨rfl, hb⟩
        have B_2 := Lib.hid (B_1.out.trans (hb.mono B_1.out.size))
        clear hb K_1 B_1
        go_wp2
        go_ret
        exact ⟨rfl, B_2.out⟩
      · have hE : prE a b = 21 := by simp [prE, h0, h1, h2]
        rw [hE]
        have hne : (inL a == inL b) = false := by rw [beq_eq_false_iff_ne]; exact h2
        generalize inL b = I at *
        generalize inL a = J at *
        have CA := Lib.hid cA; have CB := Lib.hid cB
        clear cA cB hE h2 h0 h1 ha hb h k
        go_enter Try.func83, Try.ntmps83
        go_wp2_with fail
        refine (CA.out _ H.out).mono ?_
        rintro e w1 ⟨rfl, hb⟩
        have K_1 := Lib.hid (K.out.ext hb)
        have B_1 := Lib.hid hb
        clear hb H K
        go_wp2_with fail
        refine (CB.out _ K_1.out).mono ?_
        rintro e w2 ⟨rfl, hb⟩
        have B_2 := Lib.hid (B_1.out.trans (hb.mono B_1.out.size))
        clear hb K_1 B_1
        go_wp2
        go_ret
        exact ⟨rfl, B_2.out⟩
    · rw [lensV_bad h1] at cB
      have hE : prE a b = errL b := by simp [prE, h0, h1]
      rw [hE]
      have hne : (errL b == 0) = false := by rw [beq_eq_false_iff_ne]; exact h1
      generalize errL b = E at *
      have CA := Lib.hid cA; have CB := Lib.hid cB
      clear cA cB hE h0 h1 ha hb h k
      go_enter Try.func83, Try.ntmps83
      go_wp2_with fail
      refine (CA.out _ H.out).mono ?_
      rintro e w1 ⟨rfl, hb⟩
      have K_1 := Lib.hid (K.out.ext hb)
      have B_1 := Lib.hid hb
      clear hb H K
      go_wp2_with fail
      refine (CB.out _ K_1.out).mono ?_
      rintro e w2 ⟨rfl, hb⟩
      have B_2 := Lib.hid (B_1.out.trans (hb.mono B_1.out.size))
      clear hb K_1 B_1
      go_wp2
      go_ret
      exact ⟨rfl, B_2.out⟩
  · rw [lensV_bad h0] at cA
    have hE : prE a b = errL a := by simp [prE, h0]
    rw [hE]
    have hne : (errL a == 0) = false := by rw [beq_eq_false_iff_ne]; exact h0
    generalize errL a = E at *
    have CA := Lib.hid cA
    clear cA cB hE h0 ha hb h k
    go_enter Try.func83, Try.ntmps83
    go_wp2_with fail
    refine (CA.out _ H.out).mono ?_
    rintro e w1 ⟨rfl, hb⟩
    have B_1 := Lib.hid hb
    clear hb H K
    go_wp2
    go_ret
    exact ⟨rfl, B_1.out⟩

set_option maxHeartbeats 4000000 in
set_option maxRecDepth 100000 in
theorem refTrans7_any (v u : Value) (a b : List Pc) (f : Bool) (w : World) (h : Sl pcE w v a) (k : Sl pcE w u b) (ha : ∀ p, p ∈ a → p.wf) (hb : ∀ p, p ∈ b → p.wf) (hl : prE a b = 0 → outL a + iN b ≤ 49000) :
    Calls Try.prog 51 #[v, u, .bool f] w fun e w' => ∃ v', e = .returned (.tuple #[v', .int .i64 (trE f a b)]) ∧ w'.ownsRow w.heap.size 31 3 v' (trR f a b).length (pcE.flat (trR f a b)) ∧ Below w.heap.size w w' := by
  have cC := fun w h k => checks7_any v u a b w h k ha hb
  have H := Lib.hid h; have K := Lib.hid k
  by_cases h0 : prE a b = 0
  · obtain ⟨ea, eb, ei⟩ := prE_ok h0
    have cG := fun w h k => against7_any v u a b f w h k ea eb ei (hl h0)
    obtain ⟨s1, s2, s3⟩ := trS_ok f ea eb ei
    have va := ((errL_iff a).1 ea).2.1
    have vb := ((errL_iff b).1 eb).2.1
    have oa := ((errL_iff a).1 ea).2.2.2
    have wF : ∀ p, p ∈ formS (trS f a b) → p.wf := by
      obtain ⟨f1, f2, f3⟩ := formS_ok s1.val
      have e2 := (trS_rel f ea eb ei).outB.1
      rw [outL_formS va, (kN_form vb).2.1] at e2
      refine wf_val f1 (by rw [f3, s3]; omega) ?_
      have := hl h0
      rw [outL_formS s1.val]
      omega
    have cK : ∀ w x, Sl pcE w x (formS (trS f a b)) → Calls Try.prog 63 #[x] w fun e w' => e = .returned (.int .i64 (errL (formS (trS f a b)))) ∧ Below w.heap.size w w' := fun w x h => refCheck_any x (formS (trS f a b)) w h wF
    rw [h0] at cC
    by_cases h1 : errL (formS (trS f a b)) = 0
    · have eE : trE f a b = 0 := by rw [trE, if_pos ea, if_pos eb, if_pos ei, if_pos h1]
      have eR : trR f a b = formS (trS f a b) := by rw [trR, if_pos eE]
      rw [eE, eR]
      rw [h1] at cK
      generalize formS (trS f a b) = R at *
      have CC := Lib.hid cC; have CG := Lib.hid cG; have CK := Lib.hid cK
      clear cC cG cK eE eR h0 h1 ea eb ei s1 s2 s3 va vb oa wF ha hb h k hl
      go_enter Try.func51, Try.ntmps51
      go_wp2_with fail
      refine (CC.out _ H.out K.out).mono ?_
      rintro e w1 ⟨rfl, hb⟩
      have H_1 := Lib.hid (H.out.ext hb)
      have K_1 := Lib.hid (K.out.ext hb)
      have B_1 := Lib.hid hb
      clear hb H K
      go_wp2_with fail
      refine (CG.out _ H_1.out K_1.out).mono ?_
      rintro e w2 ⟨vg, rfl, ho, hb⟩
      have O2 := Lib.hid (own_base (own_zero ho) (fun g hg => Nat.le_trans B_1.out.size (ho.lt g hg).1)); have B_2 := Lib.hid (B_1.out.trans (hb.mono B_1.out.size))
      clear hb ho H_1 K_1 B_1
      go_wp2_with fail
      refine (CK.out _ _ (Sl.of_own O2.out)).mono ?_
      rintro e w3 ⟨rfl, hb⟩
      have O3 := Lib.hid (own_keepB O2.out (Fr.of_below (T := fun _ => False) hb) (fun _ _ h => h.elim)); have B_3 := Lib.hid (B_2.out.trans (hb.mono B_2.out.size))
      clear hb O2 B_2
      go_wp2
      go_ret2
      exact ⟨vg, rfl, O3.out, B_3.out⟩
    · have eE : trE f a b = 5 := by rw [trE, if_pos ea, if_pos eb, if_pos ei, if_neg h1]
      have eR : trR f a b = [] := trR_none (by rw [eE]; omega)
      rw [eE, eR]
      have hne : (errL (formS (trS f a b)) != 0) = true := by simpa using h1
      generalize errL (formS (trS f a b)) = E at *
      generalize formS (trS f a b) = R at *
      have CC := Lib.hid cC; have CG := Lib.hid cG; have CK := Lib.hid cK
      clear cC cG cK eE eR h0 h1 ea eb ei s1 s2 s3 va vb oa wF ha hb h k hl
      go_enter Try.func51, Try.ntmps51
      go_wp2_with fail
      refine (CC.out _ H.out K.out).mono ?_
      rintro e w1 ⟨rfl, hb⟩
      have H_1 := Lib.hid (H.out.ext hb)
      have K_1 := Lib.hid (K.out.ext hb)
      have B_1 := Lib.hid hb
      clear hb H K
      go_wp2_with fail
      refine (CG.out _ H_1.out K_1.out).mono ?_
      rintro e w2 ⟨vg, rfl, ho, hb⟩
      have O2 := Lib.hid (own_base (own_zero ho) (fun g hg => Nat.le_trans B_1.out.size (ho.lt g hg).1)); have B_2 := Lib.hid (B_1.out.trans (hb.mono B_1.out.size))
      clear hb ho H_1 K_1 B_1
      go_wp2_with fail
      refine (CK.out _ _ (Sl.of_own O2.out)).mono ?_
      rintro e w3 ⟨rfl, hb⟩
      have O3 := Lib.hid (own_keepB O2.out (Fr.of_below (T := fun _ => False) hb) (fun _ _ h => h.elim)); have B_3 := Lib.hid (B_2.out.trans (hb.mono B_2.out.size))
      clear hb O2 B_2
      go_wp2
      go_ret2
      exact ⟨_, rfl, World.ownsRow_nil _ _ _ _, B_3.out⟩
  · have eE : trE f a b = prE a b := by
      unfold trE
      unfold prE at h0 ⊢
      split
      · split
        · split
          · rename_i q1 q2 q3; simp [q1, q2, q3] at h0
          · rfl
        · rfl
      · rfl
    have eR : trR f a b = [] := trR_none (by rw [eE]; exact h0)
    rw [eE, eR]
    have hne : (prE a b != 0) = true := by simpa using h0
    generalize prE a b = E at *
    have CC := Lib.hid cC
    clear cC eE eR h0 ha hb h k hl
    go_enter Try.func51, Try.ntmps51
    go_wp2_with fail
    refine (CC.out _ H.out K.out).mono ?_
    rintro e w1 ⟨rfl, hb⟩
    have B_1 := Lib.hid hb
    clear hb H K
    go_wp2
    go_ret2
    exact ⟨_, rfl, World.ownsRow_nil _ _ _ _, B_1.out⟩

set_option maxHeartbeats 4000000 in
set_option maxRecDepth 100000 in
theorem refPair7_any (v u : Value) (a b : List Pc) (w : World) (h : Sl pcE w v a) (k : Sl pcE w u b) (ha : ∀ p, p ∈ a → p.wf) (hb : ∀ p, p ∈ b → p.wf) (hl : prE a b = 0 → outL a + iN b ≤ 49000) (hl' : prE b a = 0 → outL b + iN a ≤ 49000) :
    Calls Try.prog 54 #[v, u] w fun e w' => ∃ v' u', e = .returned (.tuple #[v', u', .int .i64 (tpE a b)]) ∧ w'.ownsRow w.heap.size 31 3 v' (tpA a b).length (pcE.flat (tpA a b)) ∧ w'.ownsRow w.heap.size 31 3 u' (tpB a b).length (pcE.flat (tpB a b)) ∧ Below w.heap.size w w' := by
  have cA := fun w h k => refTrans7_any v u a b true w h k ha hb hl
  have cB := fun w h k => refTrans7_any u v b a false w k h hb ha hl'
  have H := Lib.hid h; have K := Lib.hid k
  unfold tpA tpB
  by_cases h0 : trE true a b = 0
  · have e : tpE a b = trE false b a := by rw [tpE, if_pos h0]
    rw [e]
    rw [h0] at cA
    by_cases h1 : trE false b a = 0
    · simp only [h1, if_true]
      rw [h1] at cB
      generalize trR true a b = X at *
      generalize trR false b a = Y at *
      have CA := Lib.hid cA; have CB := Lib.hid cB
      clear cA cB h k ha hb h0 h1 e hl hl'
      go_enter Try.func54, Try.ntmps54
      go_wp2_with fail
      refine (CA.out _ H.out K.out).mono ?_
      rintro e w1 ⟨v1, rfl, ho, hb⟩
      have H_1 := Lib.hid (H.out.ext hb)
      have K_1 := Lib.hid (K.out.ext hb)
      have B_1 := Lib.hid hb; have OX_1 := Lib.hid ho
      clear hb ho H K
      go_wp2_with fail
      refine (CB.out _ H_1.out K_1.out).mono ?_
      rintro e w2 ⟨v2, rfl, ho, hb⟩
      have OX_2 := Lib.hid (own_keepB OX_1.out (Fr.of_below (T := fun _ => False) hb) (fun _ _ h => h.elim))
      have OY_2 := Lib.hid (own_base (own_zero ho) (fun g hg => Nat.le_trans B_1.out.size (ho.lt g hg).1))
      have B_2 := Lib.hid (B_1.out.trans (hb.mono B_1.out.size))
      clear hb ho H_1 K_1 OX_1 B_1
      go_wp2
      exact bodyPost_ret (v := .tuple #[v2, v1, .int .i64 0]) (by simp [results, Try.f54, go_sem]) rfl ⟨v2, v1, rfl, OY_2.out, OX_2.out, B_2.out⟩
    · simp only [eq_false h1, if_false]
      have hne : (trE false b a != 0) = true := by simpa using h1
      generalize trR true a b = X at *
      generalize trR false b a = Y at *
      generalize trE false b a = E at *
      have CA := Lib.hid cA; have CB := Lib.hid cB
      clear cA cB h k ha hb h0 h1 e hl hl'
      go_enter Try.func54, Try.ntmps54
      go_wp2_with fail
      refine (CA.out _ H.out K.out).mono ?_
      rintro e w1 ⟨v1, rfl, ho, hb⟩
      have H_1 := Lib.hid (H.out.ext hb)
      have K_1 := Lib.hid (K.out.ext hb)
      have B_1 := Lib.hid hb; have OX_1 := Lib.hid ho
      clear hb ho H K
      go_wp2_with fail
      refine (CB.out _ H_1.out K_1.out).mono ?_
      rintro e w2 ⟨v2, rfl, ho, hb⟩
      have OX_2 := Lib.hid (own_keepB OX_1.out (Fr.of_below (T := fun _ => False) hb) (fun _ _ h => h.elim))
      have OY_2 := Lib.hid (own_base (own_zero ho) (fun g hg => Nat.le_trans B_1.out.size (ho.lt g hg).1))
      have B_2 := Lib.hid (B_1.out.trans (hb.mono B_1.out.size))
      clear hb ho H_1 K_1 OX_1 B_1
      go_wp2
      exact bodyPost_ret (v := .tuple #[.slice none 0 0, .slice none 0 0, .int .i64 E]) (by simp [results, Try.f54, go_sem]) rfl ⟨_, _, rfl, World.ownsRow_nil _ _ _ _, World.ownsRow_nil _ _ _ _, B_2.out⟩
  · have e : tpE a b = trE true a b := by rw [tpE, if_neg h0]
    rw [e]
    simp only [eq_false h0, if_false]
    have hne : (trE true a b != 0) = true := by simpa using h0
    generalize trR true a b = X at *
    generalize trE true a b = E at *
    have CA := Lib.hid cA
    clear cA cB h k ha hb h0 e hl hl'
    go_enter Try.func54, Try.ntmps54
    go_wp2_with fail
    refine (CA.out _ H.out K.out).mono ?_
    rintro e w1 ⟨v1, rfl, ho, hb⟩
    have B_1 := Lib.hid hb; have OX_1 := Lib.hid ho
    clear hb ho H K
    go_wp2
    exact bodyPost_ret (v := .tuple #[.slice none 0 0, .slice none 0 0, .int .i64 E]) (by simp [results, Try.f54, go_sem]) rfl ⟨_, _, rfl, World.ownsRow_nil _ _ _ _, World.ownsRow_nil _ _ _ _, B_1.out⟩

set_option maxHeartbeats 4000000 in
set_option maxRecDepth 100000 in
theorem refMerge7_any (v u : Value) (a b : List Pc) (w : World) (h : Sl pcE w v a) (k : Sl pcE w u b) (ha : ∀ p, p ∈ a → p.wf) (hb : ∀ p, p ∈ b → p.wf) (hl : prE a b = 0 → outL a + iN b ≤ 49000) :
    Calls Try.prog 56 #[v, u] w fun e w' => ∃ v', e = .returned (.tuple #[v', .int .i64 (merE a b)]) ∧ w'.ownsRow w.heap.size 31 3 v' (merR a b).length (pcE.flat (merR a b)) ∧ Below w.heap.size w w' := by
  have cA := fun w h k => refTrans7_any v u a b true w h k ha hb hl
  have ho49 : errL (trR true a b) = 0 → outL (trR true a b) ≤ 49000 := fun _ => by
    by_cases h0 : trE true a b = 0
    · obtain ⟨ea, eb, ei, -⟩ := trE_ok h0
      have va := ((errL_iff a).1 ea).2.1
      have vb := ((errL_iff b).1 eb).2.1
      have e2 := (trS_rel true ea eb ei).outB.1
      rw [outL_formS va, (kN_form vb).2.1] at e2
      rw [(trR_ok h0).2.2.2.2.2.2]
      have := hl (by simp [prE, ea, eb, ei])
      omega
    · rw [trR_none h0]; simp [outL]
  have cB := fun x w h k => refCompose_any v x a (trR true a b) w h k ha (wf_tr true a b) ho49
  have H := Lib.hid h; have K := Lib.hid k
  unfold merE merR
  by_cases h0 : trE true a b = 0
  · simp only [h0, if_true]
    rw [h0] at cA
    generalize trR true a b = X at *
    generalize cmpE a X = E at *
    generalize cmpR a X = R at *
    have CA := Lib.hid cA; have CB := Lib.hid cB
    clear cA cB h k ha hb h0 hl ho49
    go_enter Try.func56, Try.ntmps56
    go_wp2_with fail
    refine (CA.out _ H.out K.out).mono ?_
    rintro e w1 ⟨v1, rfl, ho, hb⟩
    have H_1 := Lib.hid (H.out.ext hb)
    have B_1 := Lib.hid hb; have OX_1 := Lib.hid ho
    clear hb ho K H
    go_wp2_with fail
    refine (CB.out _ _ H_1.out (Sl.of_own OX_1.out)).mono ?_
    rintro e w2 ⟨v2, rfl, ho, hb⟩
    have OX_2 := Lib.hid (own_keepB OX_1.out (Fr.of_below (T := fun _ => False) hb) (fun _ _ h => h.elim))
    have OR_2 := Lib.hid (own_base (own_zero ho) (fun g hg => Nat.le_trans B_1.out.size (ho.lt g hg).1))
    have B_2 := Lib.hid (B_1.out.trans (hb.mono B_1.out.size))
    clear hb ho H_1 OX_1 B_1
    go_wp2
    go_ret2
    exact ⟨v2, rfl, OR_2.out, B_2.out⟩
  · simp only [eq_false h0, if_false]
    have hne : (trE true a b != 0) = true := by simpa using h0
    generalize trR true a b = X at *
    generalize trE true a b = E at *
    have CA := Lib.hid cA
    clear cA cB h k ha hb h0 hl ho49
    go_enter Try.func56, Try.ntmps56
    go_wp2_with fail
    refine (CA.out _ H.out K.out).mono ?_
    rintro e w1 ⟨v1, rfl, ho, hb⟩
    have B_1 := Lib.hid hb; have OX_1 := Lib.hid ho
    clear hb ho H K
    go_wp2
    go_ret2
    exact ⟨_, rfl, World.ownsRow_nil _ _ _ _, B_1.out⟩

end Go.Proofs.Ytdlbjfgpfjcpaaa
