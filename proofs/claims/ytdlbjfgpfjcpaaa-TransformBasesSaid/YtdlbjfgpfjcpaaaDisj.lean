/- transform.Disjoint: whether two deltas change different places. Condition: the pieces read as values of their types. -/
import Derived.Test.YtdlbjfgpfjcpaaaSpans
namespace Go.Proofs.Ytdlbjfgpfjcpaaa
open Go.RowKit Go.Maps

theorem Sl.rg7 {w : World} {v : Value} {l : List (Int × Int)} (h : Sl rgE w v l) {k : Nat} (hk : k < l.length) :
    ∃ b off cap, v = .slice (some ⟨b, off, none⟩) l.length cap ∧ b < w.heap.size ∧ ∀ w', Below w.heap.size w w' → w'.cell? ⟨b, off + k * 2, none⟩ = some (.int .i64 l[k].1) ∧ w'.cell? ⟨b, off + k * 2 + 1, none⟩ = some (.int .i64 l[k].2) := by
  obtain ⟨A, cap, rfl, h2, h3, h4⟩ := h
  obtain ⟨b, off, rfl, hb, hc⟩ := h4 (by omega)
  have hx : l[k]? = some l[k] := List.getElem?_eq_getElem hk
  refine ⟨b, off, cap, rfl, hb, fun w' hb' => ⟨?_, ?_⟩⟩
  · exact (hb'.cell (p := ⟨b, _, none⟩) hb).trans (hc k 0 _ _ hx rfl)
  · exact (hb'.cell (p := ⟨b, _, none⟩) hb).trans (hc k 1 _ _ hx rfl)
set_option maxRecDepth 100000 in
theorem bool_inv {v : Value} {y : DataW Unit × List MemPlace} (h : plainElem Try.prog 4 v = some y) : ∃ c, v = .bool c := by
  unfold plainElem at h
  rw [Try.underlying4] at h
  cases v <;> simp at h
  exact ⟨_, rfl⟩
set_option maxRecDepth 100000 in
theorem look_set {w : World} {b n : Nat} {S : List Int} (h : w.ownsMap Try.prog 3 (plainElem Try.prog 4) b n (setD S)) (x : Int) (hx : (Lit.int IntKind.i64 x).wf = true) :
    (Instr.lookup 96 (.map (some b)) (.int .i64 x) false).run Try.prog w = .ok (.bool (decide (x ∈ S))) w := by
  have hz : (zeroValue 4).run Try.prog w = .ok (.bool false) w := by kernel_rfl
  obtain ⟨v, ps, hrun, hv⟩ := h.lookup law3 Try.underlying96 hz (plainElem_bool Try.underlying4 false) (keyOf_int_mk Try.underlying3 hx)
  rw [((setD_ok S).2 x).2] at hv
  rw [hrun]
  have : v = .bool (decide (x ∈ S)) := by
    obtain ⟨c, rfl⟩ := bool_inv hv
    rw [plainElem_bool Try.underlying4 c] at hv
    injection hv with hv
    injection hv with hv _
    injection hv with hv
    injection hv with hv
    rw [hv]
  rw [this]
/-- no number of the first set that is no longer to come lies in the second one -/
def Seen (S1 S2 : List Int) (left : Lit → Bool) : Prop := ∀ k ∈ S1, left (.int .i64 k) = false → k ∉ S2

set_option maxHeartbeats 8000000 in
set_option maxRecDepth 100000 in
theorem disj_any (v u : Value) (a b : List Pc) (w : World) (h : Sl pcE w v a) (k : Sl pcE w u b) (ha : ∀ p, p ∈ a → p.wf) (hb : ∀ p, p ∈ b → p.wf) :
    Calls Try.prog 59 #[v, u] w fun e w' => e = .returned (.tuple #[.bool (disB a b), .int .i64 (prE a b)]) ∧ Below w.heap.size w w' := by
  have cP := fun w h k => pair7_any v u a b w h k ha hb
  have H := Lib.hid h; have K := Lib.hid k
  clear h k ha hb
  unfold disB
  by_cases h0 : prE a b = 0
  · obtain ⟨ea, eb, ei⟩ := prE_ok h0
    have sa := smp_of (form_err ea)
    have sb := smp_of (form_err eb)
    have la := form4096 ea
    have lb := form4096 eb
    unfold PairR at cP
    simp only [h0, if_true] at cP ⊢
    generalize formS a = X at *
    generalize formS b = Y at *
    have cX := fun x w h => spans_any x X w h sa la
    have cY := fun x w h => spans_any x Y w h sb lb
    have ga := gone_len X 0
    have gb := gone_len Y 0
    have hdis : disP X Y = (!((atsF 0 X).any fun k => decide (k ∈ atsF 0 Y)) && !((goneF 0 X).any fun r => (goneF 0 Y).any fun q => overB r q)) := rfl
    generalize disP X Y = D at *
    generalize atsF 0 X = S1 at *
    generalize atsF 0 Y = S2 at *
    generalize goneF 0 X = G at *
    generalize goneF 0 Y = L at *
    have CP := Lib.hid cP; have CX := Lib.hid cX; have CY := Lib.hid cY; have HD := Lib.hid hdis
    have hGl : G.length ≤ 4096 := by omega
    have hLl : L.length ≤ 4096 := by omega
    clear cP cX cY hdis sa sb la lb ea eb ei h0 ga gb
    go_enter Try.func59, Try.ntmps59
    go_wp2_with fail
    refine (CP.out _ H.out K.out).mono ?_
    rintro e w1 ⟨v1, u1, rfl, ⟨m, hm, o1, o2, hd⟩, hb1⟩
    have SX := Lib.hid (Sl.of_own o1); have SY := Lib.hid (Sl.of_own o2); have B1 := Lib.hid hb1
    clear hd o1 o2 hb1 hm CP H K
    go_wp2_with fail
    refine (CX.out _ _ SX.out).mono ?_
    rintro e w2 ⟨b1, v2, n1, rfl, hM, hO, hbb, hn1, hb2⟩
    have SY2 := Lib.hid (SY.out.ext hb2); have B2 := Lib.hid (B1.out.trans (hb2.mono B1.out.size))
    have M1 := Lib.hid hM; have G1 := Lib.hid (Sl.of_own hO)
    clear hM hO hb2 SX SY B1 CX
    go_wp2_with fail
    refine (CY.out _ _ SY2.out).mono ?_
    rintro e w3 ⟨b2, v3, n2, rfl, hM, hO, hbb2, hn2, hb3⟩
    have B3 := Lib.hid (B2.out.trans (hb3.mono B2.out.size))
    have M2 := Lib.hid hM; have L3 := Lib.hid (Sl.of_own hO)
    have hlt1 := M1.out.lt
    have G3 := Lib.hid (G1.out.ext hb3)
    have M3 := Lib.hid (M1.out.kept (row := none) (w' := w3) ⟨hb3.os, hb3.tape, hb3.output, hb3.size, fun k hk _ => hb3.block k hk⟩ (by simp))
    have hne : b1 ≠ b2 := by omega
    have hlt2 := M2.out.lt
    have hlt3 := M3.out.lt
    obtain ⟨AG, cG, hvG, -, -, -⟩ := id G3.out
    subst hvG
    obtain ⟨AL, cL, hvL, -, -, -⟩ := id L3.out
    subst hvL
    clear hM hO hb3 SY2 B2 M1 G1 CY
    go_wp2_with (first
      | (at_range; refine wpList_range_own _ rfl _ 96 rfl 3 4 law3 Try.underlying96 _ b1 n1 _ rfl M3.out ?_; intro w0 hrg0 hg0 hs0)
      | fail)
    go_frame
    have M20 := Lib.hid (M2.out.kept hg0 (by simp))
    have hb0 := Lib.hid (show Below w3.heap.size w3 w0 from ⟨hg0.os, hg0.tape, hg0.output, hg0.size, fun k hk => hg0.block k hk (by simp)⟩)
    have RG0 := Lib.hid hrg0
    clear hrg0 hg0 M2 M3
    go_loopw [13] (fun _ wr => ∃ (left : Lit → Bool) (cnt : Nat), Hid (wr.ranges Try.prog 3 (plainElem Try.prog 4) b1 w3.heap.size n1 (setD S1) left cnt) ∧ Hid (wr.ownsMap Try.prog 3 (plainElem Try.prog 4) b2 n2 (setD S2)) ∧ Hid (Seen S1 S2 left) ∧ Hid (∀ x, left (.int .i64 x) = true → x ∈ S1) ∧ Hid (Below w3.heap.size w3 wr)) (fun _ wr => wr.rangeLeft b1 w3.heap.size)
    case atStart =>
      refine ⟨_, _, RG0, M20, Lib.hid (fun k hk hf => ?_), Lib.hid (fun x hx => ?_), hb0⟩
      · rw [((setD_ok S1).2 k).1] at hf
        simp [hk] at hf
      · rw [((setD_ok S1).2 x).1] at hx
        simpa using hx
    case round =>
      obtain ⟨left, cnt, hrg, hM, hS, hIn, hB⟩ := hrel
      have hsz := hB.out.size
      clear RG0 M20 hb0
      go_wp2_with (at_next; refine Hid.out ?_)
      refine Lib.hid ?_
      refine wpList_next_ranges _ rfl _ rfl 3 law3 (plainElem Try.prog 4) (Value.int .i64) Value.bool (fun key kl hk => by obtain ⟨x, e, _⟩ := Maps.keyOf_int_inv Try.underlying3 hk; exact ⟨x, e⟩) (fun v y hy => bool_inv hy) b1 w3.heap.size n1 (setD S1) left cnt rfl hrg.out ?_ ?_
      · intro _ hl0
        have HS := Lib.hid (show ∀ k ∈ S1, k ∉ S2 from fun k hk => hS.out k hk (hl0 _))
        clear hS hl0 hM hrg hIn
        go_wp2_with fail
        go_loopw [49] (fun i wz => ∃ k : Nat, k ≤ G.length ∧ i = .int .i64 k ∧ Hid (∀ r ∈ G.take k, ∀ q ∈ L, overB r q = false) ∧ Hid (Below w3.heap.size w3 wz)) (fun i _ => G.length - (intOf i).toNat)
        case atStart => exact ⟨0, by omega, rfl, Lib.hid (fun r hr => by simp at hr), hB⟩
        clear hB
        case round =>
          obtain ⟨k, hk, rfl, hK, hB⟩ := hrel
          have hsz := hB.out.size
          by_cases hlt : k < G.length
          · obtain ⟨bg, og, cg, hvg, hbg, hcg⟩ := G3.out.rg7 hlt
            obtain ⟨rfl, rfl⟩ : AG = some ⟨bg, og, none⟩ ∧ cG = cg := by injection hvg with e1 e2 e3; exact ⟨e1, e3⟩
            obtain ⟨g0, g1⟩ := hcg _ hB.out
            have hbgw := Nat.lt_of_lt_of_le hbg hsz
            have htk : G.take (k + 1) = G.take k ++ [G[k]] := List.take_succ_eq_append_getElem hlt
            have hmem : G[k] ∈ G := List.getElem_mem hlt
            have Htk := Lib.hid htk; have Hmem := Lib.hid hmem
            clear htk hmem hcg hvg
            generalize G[k] = r at *
            obtain ⟨r1, r2⟩ := r
            dsimp only at g0 g1
            generalize wr = wo at *
            have hA := Lib.hid (hB.out.alloc hsz (.cells #[.int .i64 r1, .int .i64 r2] 100))
            go_wp2_with fail
            go_loopw [55] (fun i wz => ∃ m : Nat, m ≤ L.length ∧ i = .int .i64 m ∧ Hid (∀ q ∈ L.take m, overB (r1, r2) q = false) ∧ Hid (Below (wo.heap.size + 1) (wo.alloc (.cells #[.int .i64 r1, .int .i64 r2] 100)) wz)) (fun i _ => L.length - (intOf i).toNat)
            case atStart => exact ⟨0, by omega, rfl, Lib.hid (fun r hr => by simp at hr), Lib.hid (Below.refl _ _)⟩
            case round =>
              obtain ⟨m, hm, rfl, hJ, hC⟩ := hrel
              have hAz := Lib.hid (hA.out.trans (hC.out.mono (by omega)))
              have hszz := hC.out.size
              have q0 : wr.cell? ⟨wo.heap.size, 0, none⟩ = some (.int .i64 r1) := by rw [hC.out.cell (p := ⟨wo.heap.size, 0, none⟩) (by simp)]; simp
              have q1 : wr.cell? ⟨wo.heap.size, 1, none⟩ = some (.int .i64 r2) := by rw [hC.out.cell (p := ⟨wo.heap.size, 1, none⟩) (by simp)]; simp
              have hq : wo.heap.size < wr.heap.size := by simp at hszz; omega
              by_cases hlm : m < L.length
              · obtain ⟨bl, ol, cl, hvl, hbl, hcl⟩ := L3.out.rg7 hlm
                obtain ⟨rfl, rfl⟩ : AL = some ⟨bl, ol, none⟩ ∧ cL = cl := by injection hvl with e1 e2 e3; exact ⟨e1, e3⟩
                obtain ⟨l0, l1⟩ := hcl _ hAz.out
                have hblw := Nat.lt_of_lt_of_le hbl hAz.out.size
                have htk2 : L.take (m + 1) = L.take m ++ [L[m]] := List.take_succ_eq_append_getElem hlm
                have hmem2 : L[m] ∈ L := List.getElem_mem hlm
                have Htk2 := Lib.hid htk2; have Hmem2 := Lib.hid hmem2
                clear htk2 hmem2 hcl hvl
                generalize L[m] = s at *
                obtain ⟨s1, s2⟩ := s
                dsimp only at l0 l1
                have hC2 := Lib.hid (hC.out.alloc (by simp at hszz; omega) (.cells #[.int .i64 s1, .int .i64 s2] 100))
                have hov : decide ((if r1 < s1 then s1 else r1) < (if s2 < r2 then s2 else r2)) = overB (r1, r2) (s1, s2) := by
                  unfold overB
                  apply decide_eq_decide.2
                  dsimp only
                  split <;> split <;> omega
                cases ho : overB (r1, r2) (s1, s2) with
                | true =>
                  have hD : D = false := by
                    have h2 : G.any (fun r => L.any fun q => overB r q) = true := List.any_eq_true.2 ⟨_, Hmem.out, List.any_eq_true.2 ⟨_, Hmem2.out, ho⟩⟩
                    rw [HD.out, h2]
                    simp
                  rw [ho] at hov
                  have hf := Lib.hid (B3.out.trans (hAz.out.mono B3.out.size))
                  subst hD
                  clear ho HD Hmem Hmem2 hJ hK HS
                  go_wp2
                  all_goals go_ret2
                  all_goals exact ⟨rfl, bal hf.out⟩
                | false =>
                  have hJ' := Lib.hid (show ∀ q ∈ L.take (m + 1), overB (r1, r2) q = false from fun q hq' => by
                    rw [Htk2.out] at hq'
                    rcases List.mem_append.1 hq' with hr | hr
                    · exact hJ.out q hr
                    · rw [List.mem_singleton.1 hr]; exact ho)
                  rw [ho] at hov
                  clear ho HD Hmem Hmem2 hJ hK HS
                  go_wp2
                  all_goals go_roundw
                  all_goals first
                    | exact ⟨m + 1, by omega, by go_num, hJ', hC2⟩
                    | (simp [intOf]; omega)
              · have hj : L.take m = L := List.take_of_length_le (by omega)
                have hK' := Lib.hid (show ∀ r ∈ G.take (k + 1), ∀ q ∈ L, overB r q = false from fun r hr q hq' => by
                  rw [Htk.out] at hr
                  rcases List.mem_append.1 hr with hr | hr
                  · exact hK.out r hr q hq'
                  · rw [List.mem_singleton.1 hr]; have := hJ.out; rw [hj] at this; exact this q hq')
                clear hj hJ hC q0 q1 hq hszz
                go_wp2_with fail
                go_roundw
                case rel => exact ⟨k + 1, by omega, by go_num, hK', hAz⟩
                case measure => simp [intOf]; omega
          · have hkG : G.take k = G := List.take_of_length_le (by omega)
            have hD : D = true := by
              have h1 : S1.any (fun k => decide (k ∈ S2)) = false := List.any_eq_false.2 fun x hx => by simpa using HS.out x hx
              have h2 : G.any (fun r => L.any fun q => overB r q) = false := List.any_eq_false.2 fun r hr => by
                have := hK.out
                rw [hkG] at this
                rw [List.any_eq_false.2 (fun q hq => by rw [this r hr q hq]; simp)]
                simp
              rw [HD.out, h1, h2]
              rfl
            subst hD
            have hf := Lib.hid (B3.out.trans (hB.out.mono B3.out.size))
            clear hkG hK HD hB
            go_wp2
            go_ret2
            exact ⟨rfl, hf.out⟩
      · intro x c kl y wn cnt' hkey hlk hv hat hrg1 hlt1' hg1 hs1 hen
        obtain ⟨x', ex, rfl, hwx⟩ := Maps.keyOf_int_inv Try.underlying3 hkey
        injection ex with _ ex
        subst ex
        have M2n := Lib.hid (hM.out.kept hg1 (fun e => by injection e with e; omega))
        have Bn := Lib.hid (hB.out.grown hg1 hsz (fun j hj => by cases hj; exact Nat.le_refl _))
        have hlook := look_set M2n.out x hwx
        have hx1 := hIn.out x hlk
        by_cases hx2 : x ∈ S2
        · have hD : D = false := by
            rw [HD.out, show S1.any (fun k => decide (k ∈ S2)) = true from List.any_eq_true.2 ⟨x, hx1, by simpa using hx2⟩]
            rfl
          rw [decide_eq_true hx2] at hlook
          clear hx2 hx1 hlk hat hv hM hS hIn hB hrg hrg1 hkey HD
          subst hD
          go_wp2
          go_ret2
          exact ⟨rfl, B3.out.trans (Bn.out.mono B3.out.size)⟩
        · rw [decide_eq_false hx2] at hlook
          have HS' := Lib.hid (show Seen S1 S2 (fun z => left z && !z.sameKey (.int .i64 x)) from fun k hk hf => by
            by_cases e : k = x
            · subst e; exact hx2
            · have hne : (Lit.int IntKind.i64 k).sameKey (.int .i64 x) = false := Maps.sameKey_ne (fun hh => e (by injection hh))
              have hf' : (left (.int .i64 k) && !(Lit.int IntKind.i64 k).sameKey (.int .i64 x)) = false := hf
              rw [hne] at hf'
              exact hS.out k hk (by simpa using hf'))
          have HI' := Lib.hid (show ∀ y, (left (.int .i64 y) && !(Lit.int IntKind.i64 y).sameKey (.int .i64 x)) = true → y ∈ S1 from fun y hy => hIn.out y (by cases hl : left (.int .i64 y) <;> simp [hl] at hy ⊢))
          have hrl := hrg1.left_eq
          have hrl0 := hrg.out.left_eq
          have HR1 := Lib.hid hrg1
          clear hx2 hx1 hlk hat hv hM hS hIn hB hrg hrg1 hkey
          go_wp2_with fail
          go_roundw
          case rel => exact ⟨_, cnt', HR1, M2n, HS', HI', Bn⟩
          case measure => rw [hrl, hrl0]; exact hlt1'
  · have hne : (prE a b == 0) = false := by rw [beq_eq_false_iff_ne]; exact h0
    unfold PairR at cP
    simp only [h0, if_false] at cP ⊢
    generalize prE a b = E at *
    have CP := Lib.hid cP
    clear cP h0
    go_enter Try.func59, Try.ntmps59
    go_wp2_with fail
    refine (CP.out _ H.out K.out).mono ?_
    rintro e w1 ⟨v1, u1, rfl, ⟨rfl, rfl⟩, hb1⟩
    have B1 := Lib.hid hb1
    clear hb1 CP H K
    go_wp2
    go_ret2
    exact ⟨rfl, B1.out⟩

end Go.Proofs.Ytdlbjfgpfjcpaaa
