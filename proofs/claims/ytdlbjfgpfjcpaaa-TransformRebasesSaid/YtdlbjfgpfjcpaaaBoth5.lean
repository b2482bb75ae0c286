/- quartoref05.Both, Fits, Compose: what they return. Condition: the pieces read as values of their types; the second delta covers at most 49000 bytes. -/
import Derived.Test.YtdlbjfgpfjcpaaaOf
import Derived.Test.YtdlbjfgpfjcpaaaPlainC2
import Derived.Test.YtdlbjfgpfjcpaaaRef4a
namespace Go.Proofs.Ytdlbjfgpfjcpaaa
open Go.RowKit

theorem row_set5 {w : World} {B n g cap : Nat} {e : TypeId} {size : Nat} {ys : List Value} (h : w.ownsRow B e size (.slice (some ⟨g, 0, none⟩) n cap) n ys) (hB : B ≤ g) (j : Nat) (u : Value) :
    (w.setCell ⟨g, j, none⟩ u).ownsRow B e size (.slice (some ⟨g, 0, none⟩) n cap) n (ys.set j u) :=
  own_base (own_set (own_zero h) j u) (fun g' hg => by simp [Value.ownBlock] at hg; omega)
theorem compA_take {A B : List Int} {k : Nat} (h : k < B.length) : compA A (B.take (k + 1)) ++ B.drop (k + 1) = (compA A (B.take k) ++ B.drop k).set k (if B[k] < 0 then B[k] else A.getD B[k].toNat 0) := by
  have hl : (compA A (B.take k)).length = k := by rw [compA_len, List.length_take]; omega
  rw [List.take_succ_eq_append_getElem h, compA_append, List.drop_eq_getElem_cons h]
  have e : compA A [B[k]] = [if B[k] < 0 then B[k] else A.getD B[k].toNat 0] := rfl
  rw [e, List.set_append_right _ _ (by omega), hl, Nat.sub_self, List.set_cons_zero, List.append_assoc]
  rfl
theorem flat_in (l : List Int) : inE.flat l = l.map fun x => Value.int .i64 x := by
  induction l with
  | nil => rfl
  | cons x l ih => simp only [Enc.flat, List.flatMap_cons, List.map_cons] at ih ⊢; rw [ih]; rfl

theorem compA_at5 {A B : List Int} {k : Nat} (h : k < B.length) : (compA A (B.take k) ++ B.drop k)[k]? = some B[k] := by
  have hl : (compA A (B.take k)).length = k := by rw [compA_len, List.length_take]; omega
  rw [List.getElem?_append_right (by omega), hl, Nat.sub_self, List.getElem?_drop, Nat.add_zero, List.getElem?_eq_getElem h]
theorem compA_neg {A B : List Int} {k : Nat} (h : k < B.length) (hn : B[k] < 0) : compA A (B.take (k + 1)) ++ B.drop (k + 1) = compA A (B.take k) ++ B.drop k := by
  rw [compA_take h, if_pos hn]
  have h2 := compA_at5 (A := A) h
  obtain ⟨h3, h4⟩ := List.getElem?_eq_some_iff.1 h2
  conv => lhs; rw [← h4]
  exact List.set_getElem_self h3
theorem sizes_io {l : List Pc} (h : Val l) : sizesS l = (inL l, outL l) := by
  have key : ∀ (l : List Pc), Val l → ∀ a b : Int, l.foldl addN a = a + inL l ∧ l.foldl addO b = b + outL l := by
    intro l
    induction l with
    | nil => intro _ a b; simp [inL, outL]
    | cons p l ih =>
      intro hv a b
      obtain ⟨v1, v2⟩ := Val.cons.1 hv
      obtain ⟨i1, i2⟩ := ih v2 (addN a p) (addO b p)
      rw [List.foldl_cons, List.foldl_cons, i1, i2]
      unfold addN addO
      simp only [inL, outL]
      refine ⟨by omega, ?_⟩
      rcases Pc.valid_cases v1 with ⟨x, y, z⟩ | ⟨x, y, z⟩ | ⟨x, y, z⟩
      · rw [if_pos x, z]; simp [Pc.out, x]; omega
      · rw [if_neg (by omega), z]; simp [Pc.out, x]
      · rw [if_neg (by omega)]; simp [Pc.out, x]; omega
  obtain ⟨a, b⟩ := key l h 0 0
  unfold sizesS
  rw [a, b]
  simp

set_option maxHeartbeats 8000000 in
set_option maxRecDepth 100000 in
theorem both5_any (v u : Value) (a b : List Pc) (w : World) (h : Sl pcE w v a) (k : Sl pcE w u b) (h0 : errL a = 0) (h1 : errL b = 0) (hf : outL a = inL b) (hb : outL b ≤ 49000) :
    Calls Try.prog 64 #[v, u] w fun e w' => ∃ v', e = .returned v' ∧ w'.ownsRow w.heap.size 31 3 v' (formS (cmpS a b)).length (pcE.flat (formS (cmpS a b))) ∧ Below w.heap.size w w' := by
  have va := ((errL_iff a).1 h0).2.1
  have vb := ((errL_iff b).1 h1).2.1
  have ia := ((errL_iff a).1 h0).2.2.1
  obtain ⟨c1, c2, c3, c4, c5⟩ := cmpS_ok va vb hf
  have la := va.atoms_len 0
  have lb := vb.atoms_len 0
  have oa := ((errL_iff a).1 h0).2.2.2
  have hR : Rising 0 (inL a) (compA (atoms 0 a) (atoms 0 b)) := by
    have := c1.rising (Int.le_refl 0)
    rw [c2, c5, Int.zero_add] at this
    exact this
  have hin : ∀ x ∈ atoms 0 b, x < ((atoms 0 a).length : Int) := fun x hx => by have := vb.inB x hx; omega
  have hla : (atoms 0 a).length ≤ 1048576 := by omega
  have hlb : (atoms 0 b).length ≤ 49000 := by omega
  have cS := fun w h => refSizes_any v a w h (formPre_of_lens h0)
  have cA := fun w h => atoms_any v a w h ⟨va, formPre_of_lens h0⟩
  have cB := fun w h => atoms_any u b w h ⟨vb, formPre_of_lens h1⟩
  have cO := fun x w h => of_any (inL a) x (compA (atoms 0 a) (atoms 0 b)) w h hR (by rw [compA_len]; exact hlb) ia
  rw [← cmpS_form va vb hf] at cO
  rw [sizes_io va] at cS
  have H := Lib.hid h; have K := Lib.hid k
  generalize formS (cmpS a b) = F at *
  generalize inL a = I at *
  generalize outL a = O1 at *
  generalize atoms 0 a = AA at *
  generalize atoms 0 b = BB at *
  have HIN := Lib.hid hin
  have CS := Lib.hid cS; have CA := Lib.hid cA; have CB := Lib.hid cB; have CO := Lib.hid cO
  clear cS cA cB cO hin hR c1 c2 c3 c4 c5 la lb oa va vb ia h k h0 h1 hf hb
  go_enter Try.func64, Try.ntmps64
  go_wp2_with fail
  refine (CS.out _ H.out).mono ?_
  rintro e w1 ⟨rfl, hb⟩
  have H1 := Lib.hid (H.out.ext hb); have K1 := Lib.hid (K.out.ext hb); have B1 := Lib.hid hb
  clear hb H K CS
  go_wp2_with fail
  refine (CA.out _ H1.out).mono ?_
  rintro e w2 ⟨v2, rfl, ho, hb⟩
  have M2 := Lib.hid (Sl.of_own ho)
  have K2 := Lib.hid (K1.out.ext hb); have B2 := Lib.hid (B1.out.trans (hb.mono B1.out.size))
  clear hb ho H1 K1 B1 CA
  go_wp2_with fail
  refine (CB.out _ K2.out).mono ?_
  rintro e w3 ⟨v3, rfl, ho, hb⟩
  have R3 := Lib.hid ho
  have B3 := Lib.hid hb
  clear hb ho K2 CB
  obtain ⟨AM, cM, hvM, -, hM3, -⟩ := id M2.out
  subst hvM
  obtain ⟨AR, cR, hvR⟩ := own_form w3 (own_zero R3.out)
  subst hvR
  unfold maxLen at hM3
  have L2 := B2.out.size
  go_wp2_with fail
  go_loopw [9] (fun i wr => ∃ k : Nat, k ≤ BB.length ∧ i = .int .i64 k ∧ Hid (wr.ownsRow w2.heap.size 3 1 (.slice AR BB.length cR) BB.length (inE.flat (compA AA (BB.take k) ++ BB.drop k))) ∧ Hid (Below w2.heap.size w2 wr)) (fun i _ => BB.length - (intOf i).toNat)
  case atStart => exact ⟨0, by omega, rfl, by simpa [compA] using R3, B3⟩
  case round =>
    obtain ⟨k, hk, rfl, hO, hB⟩ := hrel
    have hsz := hB.out.size
    by_cases hlt : k < BB.length
    · have hat := compA_at5 (A := AA) hlt
      have hxu : (inE.flat (compA AA (BB.take k) ++ BB.drop k))[k]? = some (.int .i64 BB[k]) := by rw [flat_in, List.getElem?_map, hat]; rfl
      rcases hO.out.2 with ⟨e, e0⟩ | ⟨g, cap', cur, e, hgb, hg, _⟩
      · omega
      · injection e with e1 e2 e3
        subst e1
        have c0 := hO.out.cells (g := g) rfl k _ hxu
        rw [add_flat] at c0
        rw [Nat.zero_add] at c0
        have fz : wr.frozen? ⟨g, k, none⟩ = false := Lib.frozen_of_heap hg k
        have hgw := heap_lt hg
        have hx := HIN.out BB[k] (List.getElem_mem hlt)
        by_cases hn : BB[k] < 0
        · have hEq := Lib.hid (compA_neg (A := AA) hlt hn)
          have n2 : decide (0 ≤ BB[k]) = false := decide_eq_false (by omega)
          clear hat hxu hg hx hn
          generalize BB[k] = x at *
          go_wp2_with fail
          go_roundw
          case rel => exact ⟨k + 1, by omega, by go_num, Lib.hid (by rw [hEq.out]; exact hO.out), hB⟩
          case measure => simp [intOf]; omega
        · have hEq := Lib.hid (compA_take (A := AA) hlt)
          rw [if_neg hn] at hEq
          obtain ⟨q, hq⟩ := Int.eq_ofNat_of_zero_le (show 0 ≤ BB[k] by omega)
          rw [hq] at c0 hx hEq
          have hqa : q < AA.length := by omega
          obtain ⟨f, off3, cap3, hv3, hf3, hc3⟩ := M2.out.int5 hqa
          obtain ⟨rfl, rfl⟩ : AM = some ⟨f, off3, none⟩ ∧ cM = cap3 := by injection hv3 with e1 e2 e3; exact ⟨e1, e3⟩
          have f0 := hc3 _ hB.out
          have hfw : f < wr.heap.size := Nat.lt_of_lt_of_le hf3 hsz
          have hge : AA.getD ((q : Int)).toNat 0 = AA[q] := by simp [List.getD_eq_getElem?_getD, hqa]
          rw [hge] at hEq
          have hqi : (q : Int) < (AA.length : Int) := by omega
          clear hv3 hc3 hge hq hn hat hxu hg
          generalize AA[q] = y at *
          go_wp2_with fail
          have O8 := Lib.hid (row_set5 hO.out hgb k (.int .i64 y))
          have B8 := Lib.hid (hB.out.setCell (p := ⟨g, k, none⟩) hgb (.int .i64 y))
          go_roundw
          case rel => exact ⟨k + 1, by omega, by go_num, Lib.hid (by rw [hEq.out, flat_in, List.map_set, ← flat_in]; exact O8.out), B8⟩
          case measure => simp [intOf]; omega
    · have hkl : compA AA (BB.take k) ++ BB.drop k = compA AA BB := by rw [List.take_of_length_le (by omega), List.drop_eq_nil_iff.2 (by omega), List.append_nil]
      rw [hkl] at hO
      have SO := Lib.hid (show Sl inE wr (.slice AR BB.length cR) (compA AA BB) from by have hO' := hO.out; rw [← compA_len AA BB] at hO'; have hs : Sl inE wr (.slice AR (compA AA BB).length cR) (compA AA BB) := Sl.of_own hO'; rw [compA_len] at hs; exact hs)
      have B4 := Lib.hid (B2.out.trans (hB.out.mono L2))
      clear hkl hO
      go_wp2_with fail
      refine (CO.out _ _ SO.out).mono ?_
      rintro e w5 ⟨v5, rfl, ho, hb⟩
      have O5 := Lib.hid (own_base (own_zero ho) (fun g hg => Nat.le_trans B4.out.size (ho.lt g hg).1)); have B5 := Lib.hid (B4.out.trans (hb.mono B4.out.size))
      clear ho hb
      go_wp2
      go_ret
      exact ⟨_, rfl, O5.out, B5.out⟩

end Go.Proofs.Ytdlbjfgpfjcpaaa
