/- slices.symMergeCmpFunc at marks, over a row of the call's own: one element ahead. Condition: the parts lie in the row and are in order. -/
import Derived.Test.YtibmnkdeepmabaaSymP
import Derived.Deep.RegionHeld3
namespace Go.Proofs.Ytibmnkdeepmabaa
open Go.RowKit Go.Sort

theorem btwB_any (x y : Mk) (w : World) : Calls Try.prog 43 #[.agg #[.int .u32 x.id, .int .i64 x.a, .int .u8 x.g], .agg #[.int .u32 y.id, .int .i64 y.a, .int .u8 y.g]] w fun e w' => e = .returned (.int .i64 (cf9 x y)) ∧ Below w.heap.size w w' := by
  refine (btwC_any x y w).mono ?_
  rintro e w' ⟨he, n, os, rfl⟩
  exact ⟨he, Lib.below_grow _ _ (Nat.le_refl _) n os⟩
theorem OwnA.ext {B g N c : Nat} {d : Array Mk} {W W' : World} (h : OwnA B g N c d W) (hb : Below W.heap.size W W') : OwnA B g N c d W' := ⟨own_ext h.own hb⟩
/-- what a merge leaves -/
def SymR (B g N c a b : Nat) (d : Array Mk) (w w' : World) : Prop := ∃ d' : Array Mk, OwnA B g N c d' w' ∧ PermIn a b d d' ∧ SortedIn lt9 a b d' ∧ Same9 d d' ∧ Below B w w'


set_option maxHeartbeats 4000000 in
set_option maxRecDepth 100000 in
theorem symA_any (d : Array Mk) (a m b B g N c : Nat) (w : World) (h : OwnA B g N c d w) (hB : B ≤ w.heap.size) (hm1 : m = a + 1) (ham : a < m) (hmb : m < b) (hbN : b ≤ N) (hN : N ≤ 1000000) (hs1 : SortedIn lt9 a m d) (hs2 : SortedIn lt9 m b d) :
    Calls Try.prog 80 #[.slice (some ⟨g, 0, none⟩) N c, .int .i64 a, .int .i64 m, .int .i64 b, fvB] w fun e w' => e = .returned (.tuple #[]) ∧ SymR B g N c a b d w w' := by

  have hBg := (h.own.lt g rfl).1
  have hgw0 := (h.own.lt g rfl).2
  have hsz := h.size
  have H := Lib.hid h; have HS1 := Lib.hid hs1; have HS2 := Lib.hid hs2
  have hm1' : (m : Int) - (a : Int) = 1 := by omega
  have hB0 := Lib.hid hB
  have HM1 := Lib.hid hm1
  clear hm1
  unfold fvB
  clear h hs1 hs2 hB
  go_enter Try.func80, Try.ntmps80
  go_wp2_with fail
  clear hm1'
  go_loopw [10, 11] (fun vi vj wr => ∃ i j : Nat, vi = .int .i64 i ∧ vj = .int .i64 j ∧ m ≤ i ∧ i ≤ j ∧ j ≤ b ∧ Hid (∀ t, m ≤ t → t < i → lt9 d[t]! d[a]! = true) ∧ Hid (∀ t, j ≤ t → t < b → lt9 d[t]! d[a]! = false) ∧ Hid (Below w.heap.size w wr)) (fun vi vj _ => (intOf vj).toNat - (intOf vi).toNat)
  case atStart => exact ⟨m, b, rfl, rfl, by omega, by omega, by omega, Lib.hid (fun t h1 h2 => by omega), Lib.hid (fun t h1 h2 => by omega), Lib.hid (Below.refl _ _)⟩
  case round =>
    obtain ⟨i, j, rfl, rfl, hmi, hij, hjb, hL, hU, hB⟩ := hrel
    by_cases hlt : i < j
    · have hlti : (i : Int) < (j : Int) := by omega
      obtain ⟨hh, hhe⟩ : ∃ hh, hh = (i + j) / 2 := ⟨_, rfl⟩
      have eh : ((i : Int) + (j : Int)) / 2 = (hh : Int) := by omega
      have w1 : IntKind.i64.wrap ((i : Int) + (j : Int)) = (i : Int) + (j : Int) := by rw [IntKind.wrap_i64]; omega
      have w2 : IntKind.u64.wrap ((i : Int) + (j : Int)) = (i : Int) + (j : Int) := by rw [IntKind.wrap_u64]; omega
      have w3 : IntKind.i64.wrap (hh : Int) = (hh : Int) := by rw [IntKind.wrap_i64]; omega
      have w4 : IntKind.u64.wrap (hh : Int) = (hh : Int) := by rw [IntKind.wrap_u64]; omega
      have hh1 : i ≤ hh := by omega
      have hh2 : hh < j := by omega
      clear hhe
      have hgw : g < wr.heap.size := Nat.lt_of_lt_of_le hgw0 hB.out.size
      have OX := Lib.hid ((H.out.ext hB.out).at (k := hh) (by omega))
      have OY := Lib.hid ((H.out.ext hB.out).at (k := a) (by omega))
      have CB := Lib.hid (btwB_any d[hh]! d[a]!)
      obtain ⟨rr, hrr⟩ : ∃ rr, rr = cf9 d[hh]! d[a]! := ⟨_, rfl⟩
      rw [← hrr] at CB
      have HR := Lib.hid (show lt9 d[hh]! d[a]! = decide (rr < 0) by rw [hrr]; rfl)
      have ih1 : (hh : Int) < (N : Int) := by omega
      have ia1 : (a : Int) < (N : Int) := by omega
      have HL2 := Lib.hid (show lt9 d[hh]! d[a]! = true → ∀ t, m ≤ t → t < hh + 1 → lt9 d[t]! d[a]! = true from fun q t h1 h2 => by
        rcases Nat.lt_or_ge t hh with q1 | q1
        · exact le9_lt (HS2.out t hh h1 q1 (by omega)) q
        · obtain rfl : t = hh := by omega
          exact q)
      have HU2 := Lib.hid (show lt9 d[hh]! d[a]! = false → ∀ t, hh ≤ t → t < b → lt9 d[t]! d[a]! = false from fun q t h1 h2 => by
        rcases Nat.lt_or_ge hh t with q1 | q1
        · exact le9_trans q (HS2.out hh t (by omega) q1 h2)
        · obtain rfl : t = hh := by omega
          exact q)
      clear hrr
      generalize d[hh]! = x at *
      generalize d[a]! = y at *
      go_upto_region 5 with (fail)
      go_cut [50] (fun v wc => v = .bool (decide (rr < 0)) ∧ Hid (Below wr.heap.size wr wc))
      case first =>
        have hBd : Hid (Below wr.heap.size wr wr.drew) := Lib.hid (Below.drew (Below.refl _ _))
        have d0 : wr.drew.cell? ⟨g, hh * 3, none⟩ = some (.int .u32 x.id) := OX.out.1
        have d1 : wr.drew.cell? ⟨g, hh * 3 + 1, none⟩ = some (.int .i64 x.a) := OX.out.2.1
        have d2 : wr.drew.cell? ⟨g, hh * 3 + 2, none⟩ = some (.int .u8 x.g) := OX.out.2.2
        have d3 : wr.drew.cell? ⟨g, a * 3, none⟩ = some (.int .u32 y.id) := OY.out.1
        have d4 : wr.drew.cell? ⟨g, a * 3 + 1, none⟩ = some (.int .i64 y.a) := OY.out.2.1
        have d5 : wr.drew.cell? ⟨g, a * 3 + 2, none⟩ = some (.int .u8 y.g) := OY.out.2.2
        go_region_held3 (fun W => Hid (Below wr.heap.size wr W) ∧ W.cell? ⟨g, hh * 3, none⟩ = some (.int .u32 x.id) ∧ W.cell? ⟨g, hh * 3 + 1, none⟩ = some (.int .i64 x.a) ∧ W.cell? ⟨g, hh * 3 + 2, none⟩ = some (.int .u8 x.g) ∧ W.cell? ⟨g, a * 3, none⟩ = some (.int .u32 y.id) ∧ W.cell? ⟨g, a * 3 + 1, none⟩ = some (.int .i64 y.a) ∧ W.cell? ⟨g, a * 3 + 2, none⟩ = some (.int .u8 y.g))
          (refine ⟨?_, ?_, ?_, ?_, ?_, ?_, ?_⟩ <;> first | assumption | exact And.left (by assumption) | (simp [*]; done))
          (first
           | (go_at_call 43; refine (CB.out _).mono ?_; rintro e w' ⟨rfl, hbq⟩
              have hB1 : Hid (Below wr.heap.size wr w') := Lib.hid (Below.trans hBd.out hbq)
              have e0 := (hB1.out.cell (p := ⟨g, hh * 3, none⟩) hgw).trans OX.out.1
              have e1 := (hB1.out.cell (p := ⟨g, hh * 3 + 1, none⟩) hgw).trans OX.out.2.1
              have e2 := (hB1.out.cell (p := ⟨g, hh * 3 + 2, none⟩) hgw).trans OX.out.2.2
              have e3 := (hB1.out.cell (p := ⟨g, a * 3, none⟩) hgw).trans OY.out.1
              have e4 := (hB1.out.cell (p := ⟨g, a * 3 + 1, none⟩) hgw).trans OY.out.2.1
              have e5 := (hB1.out.cell (p := ⟨g, a * 3 + 2, none⟩) hgw).trans OY.out.2.2
              clear hbq))
        all_goals go_wp2_with fail
        all_goals go_meet
        all_goals exact ⟨rfl, hB1⟩
      case rest =>
        obtain ⟨rfl, hcut⟩ := hcut
        have hBc := Lib.hid (hB.out.trans (hcut.out.mono hB.out.size))
        clear hB hcut OX OY CB
        by_cases q : rr < 0
        · have HL3 := Lib.hid (HL2.out (by rw [HR.out]; exact decide_eq_true q))
          clear HL2 HU2 HR hL
          go_wp2_with fail
          go_roundw
          case rel => exact ⟨hh + 1, j, by go_num, rfl, by omega, by omega, hjb, HL3, hU, hBc⟩
          case measure => simp [intOf]; omega
        · have HU3 := Lib.hid (HU2.out (by rw [HR.out]; exact decide_eq_false q))
          clear HL2 HU2 HR hU
          go_wp2_with fail
          go_roundw
          case rel => exact ⟨i, hh, rfl, rfl, by omega, by omega, by omega, hL, HU3, hBc⟩
          case measure => simp [intOf]; omega
    · obtain rfl : i = j := by omega
      have e1 : (i : Int) - 1 = ((i - 1 : Nat) : Int) := by omega
      obtain ⟨z, hz⟩ : ∃ z, z = i - 1 := ⟨_, rfl⟩
      rw [← hz] at e1
      have hO := Lib.hid (H.out.ext hB.out)
      obtain ⟨W1, hW1⟩ : ∃ W1, W1 = wr := ⟨_, rfl⟩
      subst hW1
      have hBB := Lib.hid (hB.out.mono hB0.out)
      have hzs : i = z + 1 := by omega
      subst hzs
      clear hz
      have hma := HM1.out
      have HF := Lib.hid (show Hid (d.size = N) from Lib.hid hsz)
      have haz : a ≤ z := by omega
      clear hma hsz H HS1 hB hij
      go_wp2_with fail
      go_loopw [13] (fun y wr => ∃ (k : Nat) (D : Array Mk), a ≤ k ∧ k ≤ z ∧ y = .int .i64 k ∧ Hid (ShR d a b k D) ∧ Hid (OwnA B g N c D wr) ∧ Hid (Below B w wr)) (fun y _ => z - (intOf y).toNat)
      case atStart => exact ⟨a, d, Nat.le_refl a, haz, rfl, Lib.hid (ShR.start d a b), hO, hBB⟩
      case round =>
        clear hO hBB
        obtain ⟨k, D, hak, hkz, rfl, hSh, hO, hB⟩ := hrel
        by_cases hlt : k < z
        · have hki : (k : Int) < (z : Int) := by omega
          obtain ⟨j, hj⟩ : ∃ j, j = k + 1 := ⟨_, rfl⟩
          obtain ⟨p0, p1, p2⟩ := hO.out.at (k := k) (by omega)
          obtain ⟨q0, q1, q2⟩ := hO.out.at (k := j) (by omega)
          have fz := hO.out.own.frozenAt
          have HS := Lib.hid (hO.out.swp k j).drew
          have HB := Lib.hid hB.out
          have HN := Lib.hid (show ShR d a b j (swp D k j) by
            rw [hj]
            exact hSh.out.step hak (by omega) (by rw [HF.out.out]; exact hbN) (hL.out (k + 1) (by have := HM1.out; omega) (by omega)))
          have ej : (k : Int) + 1 = (j : Int) := by omega
          have i1 : (k : Int) < (N : Int) := by omega
          have j1 : (j : Int) < (N : Int) := by omega
          have wj : IntKind.i64.wrap (j : Int) = (j : Int) := by rw [IntKind.wrap_i64]; omega
          have nij : ¬ k * 3 = j * 3 := by omega
          have haj : a ≤ j := by omega
          have hjz : j ≤ z := by omega
          have hkj : k < j := by omega
          clear hj hO hB hSh hL hU
          generalize hX : D[k]! = x at *
          generalize hY : D[j]! = y at *
          generalize hDD : swp D k j = D2 at *
          clear hX hY hDD
          obtain ⟨xi, xa, xg⟩ := x
          obtain ⟨yi, ya, yg⟩ := y
          simp only at p0 p1 p2 q0 q1 q2
          go_upto_region 11 with (fail)
          go_region
          all_goals
            have HS2 := Lib.hid HS.out
            have HB2 := Lib.hid (below_six HB.out hBg (k * 3) (k * 3 + 1) (k * 3 + 2) (j * 3) (j * 3 + 1) (j * 3 + 2) (.int .u32 yi) (.int .i64 ya) (.int .u8 yg) (.int .u32 xi) (.int .i64 xa) (.int .u8 xg)).drew
            clear HS HB
            go_wp2_with fail
            go_roundw
            case rel => exact ⟨j, D2, haj, hjz, by go_num, HN, HS2, HB2⟩
            case measure => simp [intOf]; omega
        · obtain rfl : k = z := by omega
          have HSo := Lib.hid (show SortedIn lt9 a b D from hSh.out.sorted (i := k + 1) (by omega) (by omega) (HM1.out ▸ HS2.out) (fun t h1 h2 => hL.out t (by have := HM1.out; omega) h2) hU.out)
          go_wp2
          refine bodyPost_ret (results_none rfl _ _ _) rfl ?_
          exact ⟨rfl, D, hO.out, hSh.out.perm, HSo.out, hSh.out.same, hB.out⟩

end Go.Proofs.Ytibmnkdeepmabaa
