/- slices.symMergeCmpFunc at marks, over a row of the call's own: any parts. Condition: the parts lie in the row and are in order. -/
import Derived.Test.YtibmnkdeepmabaaSymQ
import Derived.Deep.RegionHeld3
namespace Go.Proofs.Ytibmnkdeepmabaa
open Go.RowKit Go.Sort

set_option maxHeartbeats 8000000 in
set_option maxRecDepth 100000 in
theorem symMerge_any (B g N c : Nat) (hN : N ≤ 1000000) : ∀ (k : Nat) (d : Array Mk) (a m b : Nat) (w : World), b - a ≤ k → OwnA B g N c d w → B ≤ w.heap.size → a < m → m < b → b ≤ N → SortedIn lt9 a m d → SortedIn lt9 m b d →
    Calls Try.prog 80 #[.slice (some ⟨g, 0, none⟩) N c, .int .i64 a, .int .i64 m, .int .i64 b, fvB] w fun e w' => e = .returned (.tuple #[]) ∧ SymR B g N c a b d w w' := by
  intro k
  induction k with
  | zero => intro d a m b w h0 _ _ h1 h2; omega
  | succ k ih =>
    intro d a m b w hk h hB ham hmb hbN hs1 hs2
    by_cases hm1 : m = a + 1
    · exact symA_any d a m b B g N c w h hB hm1 ham hmb hbN hN hs1 hs2
    by_cases hb1 : b = m + 1
    · exact symB_any d a m b B g N c w h hB hm1 hb1 ham hmb hbN hN hs1
    have hBg := (h.own.lt g rfl).1
    have hgw0 := (h.own.lt g rfl).2
    have hsz := h.size
    have IH := Lib.hid ih
    have CR := Lib.hid (fun d md s e w h M h1 h2 => rotate_sym d a m b md s e B g N c w h M h1 h2 hbN hN)
    obtain ⟨md, hmd⟩ : ∃ md, md = (a + b) / 2 := ⟨_, rfl⟩
    obtain ⟨n, hn⟩ : ∃ n, n = md + m := ⟨_, rfl⟩
    obtain ⟨p, hp⟩ : ∃ p, p = n - 1 := ⟨_, rfl⟩
    have H := Lib.hid h
    have ham' : a + 1 < m := by omega
    have hmb' : m + 1 < b := by omega
    have SS := Lib.hid (fun (s0 r0 : Nat) (hS : SymS a m b md s0 r0) => hS.bounds ham' hmb' hmd)
    have ST := Lib.hid (fun (s0 r0 c : Nat) (hS : SymS a m b md s0 r0) => sym_step (c := c) hS ham' hmb' hmd hs1 hs2)
    have SF := Lib.hid (fun (s0 r0 s : Nat) (hS : SymS a m b md s0 r0) => sym_found (s := s) hS ham' hmb' hmd hs1 hs2)
    have HL := Lib.hid (fun (s e : Nat) (d1 : Array Mk) (M : SymM d a m b md s e) (R : RotR d d1 m s e md) => half_left M R hs1 hs2)
    have HRt := Lib.hid (fun (s e : Nat) (d1 d2 : Array Mk) (M : SymM d a m b md s e) (R : RotR d d1 m s e md) (hL : HalfR d1 d2 a md) => half_right M R hs1 hs2 hL)
    have HJ := Lib.hid (fun (s e : Nat) (d1 d2 d3 : Array Mk) (M : SymM d a m b md s e) (R : RotR d d1 m s e md) (hL : HalfR d1 d2 a md) (hR : HalfR d2 d3 md b) => half_join ham (by rw [hsz]; exact hbN) M R hs1 hs2 hL hR)
    have n1 : ((m : Int) - (a : Int) == 1) = false := by simp; omega
    have n2 : ¬ (m : Int) - (a : Int) = 1 := by omega
    have n3 : ((b : Int) - (m : Int) == 1) = false := by simp; omega
    have n4 : ¬ (b : Int) - (m : Int) = 1 := by omega
    have emd : ((a : Int) + (b : Int)) / 2 = (md : Int) := by omega
    have w1 : IntKind.i64.wrap ((a : Int) + (b : Int)) = (a : Int) + (b : Int) := by rw [IntKind.wrap_i64]; omega
    have w2 : IntKind.u64.wrap ((a : Int) + (b : Int)) = (a : Int) + (b : Int) := by rw [IntKind.wrap_u64]; omega
    have w3 : IntKind.i64.wrap (md : Int) = (md : Int) := by rw [IntKind.wrap_i64]; omega
    have w4 : IntKind.u64.wrap (md : Int) = (md : Int) := by rw [IntKind.wrap_u64]; omega
    have en : (md : Int) + (m : Int) = (n : Int) := by omega
    have w5 : IntKind.i64.wrap (n : Int) = (n : Int) := by rw [IntKind.wrap_i64]; omega
    have ep : (n : Int) - 1 = (p : Int) := by omega
    have w6 : IntKind.i64.wrap (p : Int) = (p : Int) := by rw [IntKind.wrap_i64]; omega
    have hmd2 : a < md ∧ md < b := by omega
    have HB0 := Lib.hid hB; have HK := Lib.hid hk; have HMD := Lib.hid hmd; have HSZ := Lib.hid hsz
    clear hk hB h ih hs1 hs2 hm1 hb1 ham' hmb' hmd hsz hn hp
    unfold fvB at *
    go_enter Try.func80, Try.ntmps80
    go_upto_if 140 with (fail)
    go_cut [20, 21] (fun v1 v2 wc => ∃ s0 r0 : Nat, v1 = .int .i64 s0 ∧ v2 = .int .i64 r0 ∧ wc = w ∧ Hid (SymS a m b md s0 r0))
    case first =>
      by_cases q : md < m
      · have q' : (md : Int) < (m : Int) := by omega
        obtain ⟨z, hz⟩ : ∃ z, z = n - b := ⟨_, rfl⟩
        have ez : (n : Int) - (b : Int) = (z : Int) := by omega
        have wz : IntKind.i64.wrap (z : Int) = (z : Int) := by rw [IntKind.wrap_i64]; omega
        have hS := Lib.hid (show SymS a m b md z md from .inl ⟨q, by omega, rfl⟩)
        clear hz
        go_wp2_with fail
        go_meet
        exact ⟨z, md, by go_num, rfl, rfl, hS⟩
      · have q' : ¬ (md : Int) < (m : Int) := by omega
        have hS := Lib.hid (show SymS a m b md a m from .inr ⟨by omega, rfl, rfl⟩)
        go_wp2_with fail
        go_meet
        exact ⟨a, m, rfl, rfl, rfl, hS⟩
    case rest => as_aux_lemma =>
      obtain ⟨s0, r0, rfl, rfl, rfl, hS⟩ := hcut
      obtain ⟨w0, hw0⟩ : ∃ w0, w0 = wc := ⟨_, rfl⟩
      subst hw0
      have hb := SS.out s0 r0 hS.out
      clear n1 n2 n3 n4 emd w1 w2
      go_wp2_with fail
      go_loopw [20, 21] (fun vi vj wr => ∃ i j : Nat, vi = .int .i64 i ∧ vj = .int .i64 j ∧ s0 ≤ i ∧ i ≤ j ∧ j ≤ r0 ∧ Hid (∀ t, s0 ≤ t → t < i → lt9 d[md + m - 1 - t]! d[t]! = false) ∧ Hid (∀ t, j ≤ t → t < r0 → lt9 d[md + m - 1 - t]! d[t]! = true) ∧ Hid (Below w0.heap.size w0 wr)) (fun vi vj _ => (intOf vj).toNat - (intOf vi).toNat)
      case atStart => exact ⟨s0, r0, rfl, rfl, Nat.le_refl _, hb.2.1, Nat.le_refl _, Lib.hid (fun t h1 h2 => by omega), Lib.hid (fun t h1 h2 => by omega), Lib.hid (Below.refl _ _)⟩
      case round =>
        obtain ⟨i, j, rfl, rfl, hmi, hij, hjb, hL, hU, hB⟩ := hrel
        by_cases hlt : i < j
        · as_aux_lemma =>
          have hlti : (i : Int) < (j : Int) := by omega
          obtain ⟨hh, hhe⟩ : ∃ hh, hh = (i + j) / 2 := ⟨_, rfl⟩
          have eh : ((i : Int) + (j : Int)) / 2 = (hh : Int) := by omega
          have w1 : IntKind.i64.wrap ((i : Int) + (j : Int)) = (i : Int) + (j : Int) := by rw [IntKind.wrap_i64]; omega
          have w2 : IntKind.u64.wrap ((i : Int) + (j : Int)) = (i : Int) + (j : Int) := by rw [IntKind.wrap_u64]; omega
          have w3 : IntKind.i64.wrap (hh : Int) = (hh : Int) := by rw [IntKind.wrap_i64]; omega
          have w4 : IntKind.u64.wrap (hh : Int) = (hh : Int) := by rw [IntKind.wrap_u64]; omega
          have hh1 : i ≤ hh := by omega
          have hh2 : hh < j := by omega
          clear hhe
          have hgw : g < wr.heap.size := Nat.lt_of_lt_of_le hgw0 hB.out.size
          obtain ⟨y2, hy2⟩ : ∃ y2, y2 = md + m - 1 - hh := ⟨_, rfl⟩
          have ey : (p : Int) - (hh : Int) = (y2 : Int) := by omega
          have wy : IntKind.i64.wrap (y2 : Int) = (y2 : Int) := by rw [IntKind.wrap_i64]; omega
          have hst := ST.out s0 r0 hh hS.out (by omega) (by omega)
          rw [← hy2] at hst
          have HL2 := Lib.hid hst.1; have HU2 := Lib.hid hst.2
          clear hst
          have OX := Lib.hid ((H.out.ext hB.out).at (k := y2) (by omega))
          have OY := Lib.hid ((H.out.ext hB.out).at (k := hh) (by omega))
          have CB := Lib.hid (btwB_any d[y2]! d[hh]!)
          obtain ⟨rr, hrr⟩ : ∃ rr, rr = cf9 d[y2]! d[hh]! := ⟨_, rfl⟩
          rw [← hrr] at CB
          have HR := Lib.hid (show lt9 d[y2]! d[hh]! = decide (rr < 0) by rw [hrr]; rfl)
          have ih1 : (hh : Int) < (N : Int) := by omega
          have ia1 : (y2 : Int) < (N : Int) := by omega
          clear hrr
          clear hy2
          generalize d[hh]! = y at *
          generalize d[y2]! = x at *
          clear HL HRt HJ SS ST SF CR IH
          go_upto_region 35 with (fail)
          go_cut [171] (fun v wc => v = .bool (!decide (rr < 0)) ∧ Hid (Below wr.heap.size wr wc))
          case first =>
            have hBd : Hid (Below wr.heap.size wr wr.drew) := Lib.hid (Below.drew (Below.refl _ _))
            have d0 : wr.drew.cell? ⟨g, y2 * 3, none⟩ = some (.int .u32 x.id) := OX.out.1
            have d1 : wr.drew.cell? ⟨g, y2 * 3 + 1, none⟩ = some (.int .i64 x.a) := OX.out.2.1
            have d2 : wr.drew.cell? ⟨g, y2 * 3 + 2, none⟩ = some (.int .u8 x.g) := OX.out.2.2
            have d3 : wr.drew.cell? ⟨g, hh * 3, none⟩ = some (.int .u32 y.id) := OY.out.1
            have d4 : wr.drew.cell? ⟨g, hh * 3 + 1, none⟩ = some (.int .i64 y.a) := OY.out.2.1
            have d5 : wr.drew.cell? ⟨g, hh * 3 + 2, none⟩ = some (.int .u8 y.g) := OY.out.2.2
            go_region_held3 (fun W => Hid (Below wr.heap.size wr W) ∧ W.cell? ⟨g, y2 * 3, none⟩ = some (.int .u32 x.id) ∧ W.cell? ⟨g, y2 * 3 + 1, none⟩ = some (.int .i64 x.a) ∧ W.cell? ⟨g, y2 * 3 + 2, none⟩ = some (.int .u8 x.g) ∧ W.cell? ⟨g, hh * 3, none⟩ = some (.int .u32 y.id) ∧ W.cell? ⟨g, hh * 3 + 1, none⟩ = some (.int .i64 y.a) ∧ W.cell? ⟨g, hh * 3 + 2, none⟩ = some (.int .u8 y.g))
              (refine ⟨?_, ?_, ?_, ?_, ?_, ?_, ?_⟩ <;> first | assumption | exact And.left (by assumption) | (simp [*]; done))
              (first
               | (go_at_call 43; refine (CB.out _).mono ?_; rintro e w' ⟨rfl, hbq⟩
                  have hB1 : Hid (Below wr.heap.size wr w') := Lib.hid (Below.trans hBd.out hbq)
                  have e0 := (hB1.out.cell (p := ⟨g, y2 * 3, none⟩) hgw).trans OX.out.1
                  have e1 := (hB1.out.cell (p := ⟨g, y2 * 3 + 1, none⟩) hgw).trans OX.out.2.1
                  have e2 := (hB1.out.cell (p := ⟨g, y2 * 3 + 2, none⟩) hgw).trans OX.out.2.2
                  have e3 := (hB1.out.cell (p := ⟨g, hh * 3, none⟩) hgw).trans OY.out.1
                  have e4 := (hB1.out.cell (p := ⟨g, hh * 3 + 1, none⟩) hgw).trans OY.out.2.1
                  have e5 := (hB1.out.cell (p := ⟨g, hh * 3 + 2, none⟩) hgw).trans OY.out.2.2
                  clear hbq))
            all_goals go_wp2_with fail
            all_goals go_meet
            all_goals exact ⟨rfl, hB1⟩
          case rest =>
            obtain ⟨rfl, hcut⟩ := hcut
            have hBc := Lib.hid (hB.out.trans (hcut.out.mono hB.out.size))
            clear hB hcut OX OY CB
            by_cases q : rr < 0
            · have HU3 := Lib.hid (HU2.out (by rw [HR.out]; exact decide_eq_true q))
              clear HL2 HU2 HR hU
              rw [show (!decide (rr < 0)) = false by rw [decide_eq_true q]; rfl]
              go_wp2_with fail
              go_roundw
              case rel => exact ⟨i, hh, rfl, rfl, by omega, by omega, by omega, hL, HU3, hBc⟩
              case measure => simp [intOf]; omega
            · have HL3 := Lib.hid (HL2.out (by rw [HR.out]; exact decide_eq_false q))
              clear HL2 HU2 HR hL
              rw [show (!decide (rr < 0)) = true by rw [decide_eq_false q]; rfl]
              go_wp2_with fail
              go_roundw
              case rel => exact ⟨hh + 1, j, by go_num, rfl, by omega, by omega, by omega, HL3, hU, hBc⟩
              case measure => simp [intOf]; omega
        · obtain rfl : i = j := by omega
          have M := Lib.hid (SF.out s0 r0 i hS.out hmi hjb hL.out hU.out)
          obtain ⟨e, he⟩ : ∃ e, e = md + m - i := ⟨_, rfl⟩
          rw [← he] at M
          have ee : (n : Int) - (i : Int) = (e : Int) := by omega
          have we : IntKind.i64.wrap (e : Int) = (e : Int) := by rw [IntKind.wrap_i64]; omega
          have H1 := Lib.hid (H.out.ext hB.out)
          have hBB := Lib.hid (hB.out.mono HB0.out)
          have HB1 := Lib.hid (Nat.le_trans HB0.out hB.out.size)
          obtain ⟨W1, hW1⟩ : ∃ W1, W1 = wr := ⟨_, rfl⟩
          subst hW1
          clear SS ST SF hL hU hB H hij hlt hmi hjb hS hb w3 w4 w5 w6 he
          go_upto_region 39 with (fail)
          go_cut [185] (fun v wc => ∃ bb : Bool, v = .bool bb ∧ wc = W1 ∧ Hid (bb = decide (i < m ∧ m < e)))
          case first =>
            by_cases q1 : i < m
            · have q1' : (i : Int) < (m : Int) := by omega
              by_cases q2 : m < e
              · have q2' : (m : Int) < (e : Int) := by omega
                go_wp2_with fail
                go_meet
                exact ⟨true, rfl, rfl, Lib.hid (decide_eq_true ⟨q1, q2⟩).symm⟩
              · have q2' : ¬ (m : Int) < (e : Int) := by omega
                go_wp2_with fail
                go_meet
                exact ⟨false, rfl, rfl, Lib.hid (decide_eq_false (fun h => q2 h.2)).symm⟩
            · have q1' : ¬ (i : Int) < (m : Int) := by omega
              go_wp2_with fail
              go_meet
              exact ⟨false, rfl, rfl, Lib.hid (decide_eq_false (fun h => q1 h.1)).symm⟩
          case rest => as_aux_lemma =>
            obtain ⟨bb, rfl, heq, hbb⟩ := hcut
            obtain ⟨W2, hW⟩ : ∃ W2, W2 = W1 := ⟨_, rfl⟩
            rw [← hW] at heq
            subst hW
            subst heq
            go_upto_if 185 with (fail)
            go_cut [] (fun wc => ∃ d1 : Array Mk, Hid (RotR d d1 m i e md) ∧ Hid (OwnA B g N c d1 wc) ∧ Hid (Below B w0 wc))
            case first =>
              cases bb
              · have hn := Lib.hid (of_decide_eq_false hbb.out.symm)
                go_wp2_with fail
                go_meet
                exact ⟨d, Lib.hid (RotR.none M.out hn.out), H1, hBB⟩
              · have hq := of_decide_eq_true hbb.out.symm
                have HC := Lib.hid (CR.out d md i e _ H1.out M.out hq.1 hq.2)
                clear hq CR IH HL HRt HJ
                go_wp2_with fail
                refine HC.out.mono ?_
                rintro r w2 ⟨rfl, d1, ho, hR, hb⟩
                have HO2 := Lib.hid ho; have HR2 := Lib.hid hR; have HB2 := Lib.hid (hBB.out.trans hb)
                clear ho hR hb HC
                go_wp2_with fail
                go_meet
                exact ⟨d1, HR2, HO2, HB2⟩
            case rest => as_aux_lemma =>
              obtain ⟨d1, hR, hO1, hB1⟩ := hcut
              have hHL := HL.out i e d1 M.out hR.out
              have S1 := Lib.hid hHL.1
              have S2 := Lib.hid hHL.2
              obtain ⟨W3, hW3⟩ : ∃ W3, W3 = wc := ⟨_, rfl⟩
              subst hW3
              have HB3 := Lib.hid (Nat.le_trans HB0.out hB1.out.size)
              clear hHL HL CR hbb H1 hBB HB1
              go_upto_region 41 with (fail)
              go_cut [199] (fun v wc => ∃ bb : Bool, v = .bool bb ∧ wc = W3 ∧ Hid (bb = decide (a < i ∧ i < md)))
              case first =>
                by_cases q1 : a < i
                · have q1' : (a : Int) < (i : Int) := by omega
                  by_cases q2 : i < md
                  · have q2' : (i : Int) < (md : Int) := by omega
                    go_wp2_with fail
                    go_meet
                    exact ⟨true, rfl, rfl, Lib.hid (decide_eq_true ⟨q1, q2⟩).symm⟩
                  · have q2' : ¬ (i : Int) < (md : Int) := by omega
                    go_wp2_with fail
                    go_meet
                    exact ⟨false, rfl, rfl, Lib.hid (decide_eq_false (fun h => q2 h.2)).symm⟩
                · have q1' : ¬ (a : Int) < (i : Int) := by omega
                  go_wp2_with fail
                  go_meet
                  exact ⟨false, rfl, rfl, Lib.hid (decide_eq_false (fun h => q1 h.1)).symm⟩
              case rest => as_aux_lemma =>
                obtain ⟨bb, rfl, heq, hbb⟩ := hcut
                obtain ⟨W4, hW⟩ : ∃ W4, W4 = W3 := ⟨_, rfl⟩
                rw [← hW] at heq
                subst hW
                subst heq
                go_upto_if 199 with (fail)
                go_cut [] (fun wc => ∃ d2 : Array Mk, Hid (HalfR d1 d2 a md) ∧ Hid (OwnA B g N c d2 wc) ∧ Hid (Below B w0 wc))
                case first =>
                  cases bb
                  · have hn := Lib.hid (of_decide_eq_false hbb.out.symm)
                    go_wp2_with fail
                    go_meet
                    exact ⟨d1, Lib.hid (S2.out hn.out), hO1, hB1⟩
                  · have hq := of_decide_eq_true hbb.out.symm
                    have HC := Lib.hid (IH.out d1 a i md _ (by have := HK.out; omega) hO1.out HB3.out hq.1 hq.2 (by omega) S1.out.1 S1.out.2)
                    clear hq IH HRt HJ
                    go_wp2_with fail
                    refine HC.out.mono ?_
                    rintro r w2 ⟨rfl, d2, ho, hp1, hp2, hp3, hb⟩
                    have HO2 := Lib.hid ho; have HR2 := Lib.hid (show HalfR d1 d2 a md from ⟨hp1, hp2, hp3⟩); have HB2 := Lib.hid (hB1.out.trans hb)
                    clear ho hp1 hp2 hp3 hb HC
                    go_wp2_with fail
                    go_meet
                    exact ⟨d2, HR2, HO2, HB2⟩
                case rest => as_aux_lemma =>
                  obtain ⟨d2, hLf, hO2, hB2⟩ := hcut
                  have hHR := HRt.out i e d1 d2 M.out hR.out hLf.out
                  have S3 := Lib.hid hHR.1
                  have S4 := Lib.hid hHR.2
                  obtain ⟨W5, hW5⟩ : ∃ W5, W5 = wc := ⟨_, rfl⟩
                  subst hW5
                  have HB5 := Lib.hid (Nat.le_trans HB0.out hB2.out.size)
                  have HJ2 := Lib.hid (fun d3 h => HJ.out i e d1 d2 d3 M.out hR.out hLf.out h)
                  clear hHR HRt HJ hbb hO1 hB1 HB3 S1 S2 hLf hR
                  go_upto_region 43 with (fail)
                  go_cut [213] (fun v wc => ∃ bb : Bool, v = .bool bb ∧ wc = W5 ∧ Hid (bb = decide (md < e ∧ e < b)))
                  case first =>
                    by_cases q1 : md < e
                    · have q1' : (md : Int) < (e : Int) := by omega
                      by_cases q2 : e < b
                      · have q2' : (e : Int) < (b : Int) := by omega
                        go_wp2_with fail
                        go_meet
                        exact ⟨true, rfl, rfl, Lib.hid (decide_eq_true ⟨q1, q2⟩).symm⟩
                      · have q2' : ¬ (e : Int) < (b : Int) := by omega
                        go_wp2_with fail
                        go_meet
                        exact ⟨false, rfl, rfl, Lib.hid (decide_eq_false (fun h => q2 h.2)).symm⟩
                    · have q1' : ¬ (md : Int) < (e : Int) := by omega
                      go_wp2_with fail
                      go_meet
                      exact ⟨false, rfl, rfl, Lib.hid (decide_eq_false (fun h => q1 h.1)).symm⟩
                  case rest => as_aux_lemma =>
                    obtain ⟨bb, rfl, heq, hbb⟩ := hcut
                    obtain ⟨W6, hW⟩ : ∃ W6, W6 = W5 := ⟨_, rfl⟩
                    rw [← hW] at heq
                    subst hW
                    subst heq
                    go_upto_if 213 with (fail)
                    cases bb
                    · have hn := Lib.hid (of_decide_eq_false hbb.out.symm)
                      have HF := Lib.hid (HJ2.out d2 (S4.out hn.out))
                      clear HJ2
                      go_wp2
                      go_end0
                      exact ⟨rfl, d2, hO2.out, HF.out.perm, HF.out.sorted, HF.out.same, hB2.out⟩
                    · have hq := of_decide_eq_true hbb.out.symm
                      have HC := Lib.hid (IH.out d2 md e b _ (by have := HK.out; omega) hO2.out HB5.out hq.1 hq.2 hbN S3.out.1 S3.out.2)
                      clear hq IH
                      go_wp2_with fail
                      refine HC.out.mono ?_
                      rintro r w2 ⟨rfl, d3, ho, hp1, hp2, hp3, hb⟩
                      have HO2 := Lib.hid ho; have HF := Lib.hid (HJ2.out d3 ⟨hp1, hp2, hp3⟩); have HB2 := Lib.hid (hB2.out.trans hb)
                      clear ho hp1 hp2 hp3 hb HC
                      go_wp2
                      go_end0
                      exact ⟨rfl, d3, HO2.out, HF.out.perm, HF.out.sorted, HF.out.same, HB2.out⟩

end Go.Proofs.Ytibmnkdeepmabaa
