/- slices.swapRangeCmpFunc at marks, over a row of the call's own: what it leaves. Condition: the two ranges lie in the row. -/
import Derived.Test.YtibmnkdeepmabaaSort3
import Derived.Test.YtibmnkdeepmabaaMark4
namespace Go.Proofs.Ytibmnkdeepmabaa
open Go.RowKit Go.Sort

/-- a row of the call's own that holds an array of marks -/
structure OwnA (B g N c : Nat) (d : Array Mk) (W : World) : Prop where
  own : W.ownsRow B 32 3 (.slice (some ⟨g, 0, none⟩) N c) N (mkE.flat d.toList)
theorem OwnA.size {B g N c : Nat} {d : Array Mk} {W : World} (h : OwnA B g N c d W) : d.size = N := by
  have := h.own.1
  rw [mkE.flat_len] at this
  have e : d.toList.length * 3 = N * 3 := this
  rw [Array.length_toList] at e
  omega
theorem OwnA.drew {B g N c : Nat} {d : Array Mk} {W : World} (h : OwnA B g N c d W) : OwnA B g N c d W.drew := ⟨h.own⟩
theorem OwnA.at {B g N c : Nat} {d : Array Mk} {W : World} (h : OwnA B g N c d W) {k : Nat} (hk : k < N) :
    W.cell? ⟨g, k * 3, none⟩ = some (.int .u32 d[k]!.id) ∧ W.cell? ⟨g, k * 3 + 1, none⟩ = some (.int .i64 d[k]!.a) ∧ W.cell? ⟨g, k * 3 + 2, none⟩ = some (.int .u8 d[k]!.g) := by
  have hs := h.size
  obtain ⟨b', off', cap', hv, -, c0, c1, c2⟩ := (Sl.of_own h.own).mk3 (k := k) (by rw [Array.length_toList]; omega)
  obtain ⟨rfl, rfl⟩ : g = b' ∧ 0 = off' := by injection hv with e1 e2 e3; injection e1 with e1; injection e1 with e1 e2; exact ⟨e1, e2⟩
  have e : d.toList[k]'(by rw [Array.length_toList]; omega) = d[k]! := by rw [getElem!_pos d k (by omega)]; rfl
  rw [Nat.zero_add, e] at c0 c1 c2
  exact ⟨c0, c1, c2⟩
theorem OwnA.swp {B g N c : Nat} {d : Array Mk} {W : World} (h : OwnA B g N c d W) (i j : Nat) :
    OwnA B g N c (swp d i j) ((((((W.setCell ⟨g, i * 3, none⟩ (.int .u32 d[j]!.id)).setCell ⟨g, i * 3 + 1, none⟩ (.int .i64 d[j]!.a)).setCell ⟨g, i * 3 + 2, none⟩ (.int .u8 d[j]!.g)).setCell ⟨g, j * 3, none⟩ (.int .u32 d[i]!.id)).setCell ⟨g, j * 3 + 1, none⟩ (.int .i64 d[i]!.a)).setCell ⟨g, j * 3 + 2, none⟩ (.int .u8 d[i]!.g)) := by
  have := own_put3 (own_put3 h.own i d[j]!) j d[i]!
  refine ⟨?_⟩
  rw [show (Sort.swp d i j).toList = (d.toList.set i d[j]!).set j d[i]! by simp [Sort.swp]]
  exact this
theorem below_six {B g : Nat} {w W : World} (h : Below B w W) (hg : B ≤ g) (i0 i1 i2 i3 i4 i5 : Nat) (x0 x1 x2 x3 x4 x5 : Value) :
    Below B w ((((((W.setCell ⟨g, i0, none⟩ x0).setCell ⟨g, i1, none⟩ x1).setCell ⟨g, i2, none⟩ x2).setCell ⟨g, i3, none⟩ x3).setCell ⟨g, i4, none⟩ x4).setCell ⟨g, i5, none⟩ x5) :=
  (((((h.setCell (p := ⟨g, i0, none⟩) hg x0).setCell (p := ⟨g, i1, none⟩) hg x1).setCell (p := ⟨g, i2, none⟩) hg x2).setCell (p := ⟨g, i3, none⟩) hg x3).setCell (p := ⟨g, i4, none⟩) hg x4).setCell (p := ⟨g, i5, none⟩) hg x5

theorem ne3 {i j p q : Nat} (h : i ≠ j) (hp : p < 3) (hq : q < 3) : ¬ i * 3 + p = j * 3 + q := by omega
/-- k exchanges -/
def swK (d : Array Mk) (a b : Nat) : Nat → Array Mk
  | 0 => d
  | k + 1 => swp (swK d a b k) (a + k) (b + k)

set_option maxHeartbeats 4000000 in
set_option maxRecDepth 100000 in
theorem swapRange_any (d : Array Mk) (a b n B g N c : Nat) (w : World) (h : OwnA B g N c d w) (hab : a + n ≤ b) (hb : b + n ≤ N) (hN : N ≤ 1000000) :
    Calls Try.prog 93 #[.slice (some ⟨g, 0, none⟩) N c, .int .i64 a, .int .i64 b, .int .i64 n, fvB] w fun e w' => e = .returned (.tuple #[]) ∧ OwnA B g N c (swK d a b n) w' ∧ Below B w w' := by
  have hBg := (h.own.lt g rfl).1
  have H := Lib.hid h
  unfold fvB
  clear h
  go_enter Try.func93, Try.ntmps93
  go_wp2_with fail
  go_loopw [10] (fun y wr => ∃ k : Nat, k ≤ n ∧ y = .int .i64 k ∧ Hid (OwnA B g N c (swK d a b k) wr) ∧ Hid (Below B w wr)) (fun y _ => n - (intOf y).toNat)
  case atStart => exact ⟨0, by omega, rfl, H, Lib.hid (Below.refl _ _)⟩
  case round =>
    obtain ⟨k, hk, rfl, hO, hB⟩ := hrel
    by_cases hlt : k < n
    · have hki : (k : Int) < (n : Int) := by omega
      obtain ⟨i, hi⟩ : ∃ i, i = a + k := ⟨_, rfl⟩
      obtain ⟨j, hj⟩ : ∃ j, j = b + k := ⟨_, rfl⟩
      obtain ⟨p0, p1, p2⟩ := hO.out.at (k := i) (by omega)
      obtain ⟨q0, q1, q2⟩ := hO.out.at (k := j) (by omega)
      have fz := hO.out.own.frozenAt
      have HS := Lib.hid (hO.out.swp i j).drew
      have HB := Lib.hid hB.out
      have hnext := Lib.hid (show swK d a b (k + 1) = swp (swK d a b k) i j by rw [hi, hj]; rfl)
      have ei : (a : Int) + (k : Int) = (i : Int) := by omega
      have ej : (b : Int) + (k : Int) = (j : Int) := by omega
      have i1 : (i : Int) < (N : Int) := by omega
      have j1 : (j : Int) < (N : Int) := by omega
      have wi : IntKind.i64.wrap (i : Int) = (i : Int) := by rw [IntKind.wrap_i64]; omega
      have wj : IntKind.i64.wrap (j : Int) = (j : Int) := by rw [IntKind.wrap_i64]; omega
      have nij : ¬ i * 3 = j * 3 := by omega
      clear hi hj hO hB
      generalize (swK d a b k)[i]! = x at *
      generalize (swK d a b k)[j]! = y at *
      obtain ⟨xi, xa, xg⟩ := x
      obtain ⟨yi, ya, yg⟩ := y
      simp only at p0 p1 p2 q0 q1 q2
      generalize hD : swK d a b k = D at *
      go_upto_region 3 with (fail)
      go_region
      all_goals
        have hS := HS.out
        rw [← hnext.out] at hS
        have HS2 := Lib.hid hS
        have HB2 := Lib.hid (below_six HB.out hBg (i * 3) (i * 3 + 1) (i * 3 + 2) (j * 3) (j * 3 + 1) (j * 3 + 2) (.int .u32 yi) (.int .i64 ya) (.int .u8 yg) (.int .u32 xi) (.int .i64 xa) (.int .u8 xg)).drew
        clear hS HS HB
        go_wp2_with fail
        go_roundw
        case rel => exact ⟨k + 1, by omega, by go_num, HS2, HB2⟩
        case measure => simp [intOf]; omega
    · obtain rfl : k = n := by omega
      go_wp2
      go_end0
      exact ⟨rfl, hO.out, hB.out⟩

end Go.Proofs.Ytibmnkdeepmabaa
