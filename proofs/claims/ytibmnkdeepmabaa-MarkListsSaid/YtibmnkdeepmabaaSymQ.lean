/- Plain laws of the general case of slices.symMergeCmpFunc at marks. -/
import Derived.Test.YtibmnkdeepmabaaSymB
import Derived.Test.YtibmnkdeepmabaaRot
namespace Go.Proofs.Ytibmnkdeepmabaa
open Go.RowKit Go.Sort

/-- what the search has found -/
structure SymM (d : Array Mk) (a m b md s e : Nat) : Prop where
  ams : a ≤ s ∧ s ≤ m ∧ m ≤ e ∧ e ≤ b
  sum : md + m = s + e
  mid : s ≤ md ∧ md ≤ e ∧ a < md ∧ md < b
  le : ∀ x y, a ≤ x → x < s → e ≤ y → y < b → lt9 d[y]! d[x]! = false
  gt : ∀ x y, s ≤ x → x < m → m ≤ y → y < e → lt9 d[y]! d[x]! = true
/-- where the search begins -/
def SymS (a m b md s0 r0 : Nat) : Prop := (md < m ∧ s0 + b = md + m ∧ r0 = md) ∨ (m ≤ md ∧ s0 = a ∧ r0 = m)
theorem SymS.bounds {a m b md s0 r0 : Nat} (h : SymS a m b md s0 r0) (ham : a + 1 < m) (hmb : m + 1 < b) (hmd : md = (a + b) / 2) : a ≤ s0 ∧ s0 ≤ r0 ∧ r0 ≤ m ∧ r0 ≤ md ∧ md + m ≤ s0 + b := by
  unfold SymS at h; omega
theorem sym_step {d : Array Mk} {a m b md s0 r0 c : Nat} (h : SymS a m b md s0 r0) (ham : a + 1 < m) (hmb : m + 1 < b) (hmd : md = (a + b) / 2) (hs1 : SortedIn lt9 a m d) (hs2 : SortedIn lt9 m b d) (hc : s0 ≤ c) (hc2 : c < r0) :
    (lt9 d[md + m - 1 - c]! d[c]! = false → ∀ t, s0 ≤ t → t < c + 1 → lt9 d[md + m - 1 - t]! d[t]! = false) ∧ (lt9 d[md + m - 1 - c]! d[c]! = true → ∀ t, c ≤ t → t < r0 → lt9 d[md + m - 1 - t]! d[t]! = true) := by
  have hb := h.bounds ham hmb hmd
  refine ⟨fun q t h1 h2 => ?_, fun q t h1 h2 => ?_⟩
  · rcases Nat.lt_or_ge t c with p | p
    · exact le9_trans (le9_trans (hs1 t c (by omega) p (by omega)) q) (hs2 (md + m - 1 - c) (md + m - 1 - t) (by omega) (by omega) (by omega))
    · obtain rfl : t = c := by omega
      exact q
  · rcases Nat.lt_or_ge c t with p | p
    · exact lt9_le (le9_lt (hs2 (md + m - 1 - t) (md + m - 1 - c) (by omega) (by omega) (by omega)) q) (hs1 c t (by omega) p (by omega))
    · obtain rfl : t = c := by omega
      exact q
theorem sym_found {d : Array Mk} {a m b md s0 r0 s : Nat} (h : SymS a m b md s0 r0) (ham : a + 1 < m) (hmb : m + 1 < b) (hmd : md = (a + b) / 2) (hs1 : SortedIn lt9 a m d) (hs2 : SortedIn lt9 m b d) (h1 : s0 ≤ s) (h2 : s ≤ r0)
    (hL : ∀ t, s0 ≤ t → t < s → lt9 d[md + m - 1 - t]! d[t]! = false) (hU : ∀ t, s ≤ t → t < r0 → lt9 d[md + m - 1 - t]! d[t]! = true) : SymM d a m b md s (md + m - s) := by
  have hb := h.bounds ham hmb hmd
  refine ⟨by omega, by omega, by omega, fun x y hx hx2 hy hy2 => ?_, fun x y hx hx2 hy hy2 => ?_⟩
  · by_cases q : s = s0
    · unfold SymS at h; omega
    · have e1 := hL (s - 1) (by omega) (by omega)
      rw [show md + m - 1 - (s - 1) = md + m - s by omega] at e1
      have e2 : lt9 d[md + m - s]! d[x]! = false := by
        rcases Nat.lt_or_ge x (s - 1) with p | p
        · exact le9_trans (hs1 x (s - 1) hx p (by omega)) e1
        · obtain rfl : x = s - 1 := by omega
          exact e1
      rcases Nat.lt_or_ge (md + m - s) y with p | p
      · exact le9_trans e2 (hs2 (md + m - s) y (by omega) p hy2)
      · obtain rfl : y = md + m - s := by omega
        exact e2
  · by_cases q : s = r0
    · unfold SymS at h; omega
    · have e1 := hU s (Nat.le_refl _) (by omega)
      have e2 : lt9 d[md + m - 1 - s]! d[x]! = true := by
        rcases Nat.lt_or_ge s x with p | p
        · exact lt9_le e1 (hs1 s x (by omega) p hx2)
        · obtain rfl : x = s := by omega
          exact e1
      rcases Nat.lt_or_ge y (md + m - 1 - s) with p | p
      · exact le9_lt (hs2 y (md + m - 1 - s) hy p (by omega)) e2
      · obtain rfl : y = md + m - 1 - s := by omega
        exact e2
/-- what the rotation leaves -/
structure RotR (d d1 : Array Mk) (m s e md : Nat) : Prop where
  perm : PermIn s e d d1
  lo : ∀ t, s ≤ t → t < md → d1[t]! = d[t + (m - s)]!
  hi : ∀ t, md ≤ t → t < e → d1[t]! = d[t - (md - s)]!
  same : Same9 d d1
theorem RotR.none {d : Array Mk} {a m b md s e : Nat} (h : SymM d a m b md s e) (hn : ¬ (s < m ∧ m < e)) : RotR d d m s e md := by
  have h1 := h.ams; have h2 := h.sum; have h3 := h.mid
  refine ⟨permIn_refl d s e, fun t p q => ?_, fun t p q => ?_, Same9.refl d⟩
  · rw [show t + (m - s) = t by omega]
  · rw [show t - (md - s) = t by omega]
theorem rotate_sym (d : Array Mk) (a m b md s e B g N c : Nat) (w : World) (h : OwnA B g N c d w) (M : SymM d a m b md s e) (h1 : s < m) (h2 : m < e) (hbN : b ≤ N) (hN : N ≤ 1000000) :
    Calls Try.prog 90 #[.slice (some ⟨g, 0, none⟩) N c, .int .i64 s, .int .i64 m, .int .i64 e, fvB] w fun r w' => r = .returned (.tuple #[]) ∧ ∃ d1 : Array Mk, OwnA B g N c d1 w' ∧ RotR d d1 m s e md ∧ Below B w w' := by
  have q1 := M.ams; have q2 := M.sum; have q3 := M.mid
  obtain ⟨P, X, Y, S, hl, hP, hX, hY, mX, mY⟩ := cut3 d (a := s) (m := m) (b := e) (by omega) (by omega) (by rw [h.size]; omega)
  refine (rotate_any d P X Y S s m e B g N c w h hl hP (by omega) (by omega) (by omega) (by omega) (by omega) hN).mono ?_
  rintro r w' ⟨hr, d1, ho, hl1, hb⟩
  refine ⟨hr, d1, ho, ⟨?_, ?_, ?_, ?_⟩, hb⟩
  · have := rot_perm hl hl1
    rw [show P.length + X.length + Y.length = e by omega, hP] at this
    exact this
  · intro t p q
    rw [(rot_get hl hl1).1 t (by omega) (by omega), hX]
  · intro t p q
    rw [(rot_get hl hl1).2 t (by omega) (by omega), hY, show e - m = md - s by omega]
  · refine rot_same hl hl1 (fun x hx y hy => ?_)
    obtain ⟨i, i1, i2, rfl⟩ := mX x hx
    obtain ⟨j, j1, j2, rfl⟩ := mY y hy
    exact M.gt i j i1 i2 j1 j2
/-- what a merge of a half leaves -/
structure HalfR (d d' : Array Mk) (a b : Nat) : Prop where
  perm : PermIn a b d d'
  sorted : SortedIn lt9 a b d'
  same : Same9 d d'
theorem half_left {d d1 : Array Mk} {a m b md s e : Nat} (M : SymM d a m b md s e) (R : RotR d d1 m s e md) (hs1 : SortedIn lt9 a m d) (hs2 : SortedIn lt9 m b d) : (SortedIn lt9 a s d1 ∧ SortedIn lt9 s md d1) ∧ (¬ (a < s ∧ s < md) → HalfR d1 d1 a md) := by
  have q1 := M.ams; have q2 := M.sum; have q3 := M.mid
  have hh := sym_left q1.2.1 q1.2.2.2 q2 hs1 hs2 R.perm R.lo
  refine ⟨hh, fun hn => ⟨permIn_refl d1 a md, ?_, Same9.refl d1⟩⟩
  by_cases p : a < s
  · have : s = md := by omega
    rw [← this]; exact hh.1
  · have : s = a := by omega
    rw [← this]; exact hh.2
theorem half_right {d d1 d2 : Array Mk} {a m b md s e : Nat} (M : SymM d a m b md s e) (R : RotR d d1 m s e md) (hs1 : SortedIn lt9 a m d) (hs2 : SortedIn lt9 m b d) (hL : HalfR d1 d2 a md) : (SortedIn lt9 md e d2 ∧ SortedIn lt9 e b d2) ∧ (¬ (md < e ∧ e < b) → HalfR d2 d2 md b) := by
  have q1 := M.ams; have q2 := M.sum; have q3 := M.mid
  have hh := sym_right q1.1 q1.2.1 q1.2.2.1 q2 hs1 hs2 R.perm R.hi hL.perm
  refine ⟨hh, fun hn => ⟨permIn_refl d2 md b, ?_, Same9.refl d2⟩⟩
  by_cases p : md < e
  · have : e = b := by omega
    rw [← this]; exact hh.1
  · have : md = e := by omega
    rw [this]; exact hh.2
theorem half_join {d d1 d2 d3 : Array Mk} {a m b md s e : Nat} (ham : a < m) (hb : b ≤ d.size) (M : SymM d a m b md s e) (R : RotR d d1 m s e md) (hs1 : SortedIn lt9 a m d) (hs2 : SortedIn lt9 m b d) (hL : HalfR d1 d2 a md) (hR : HalfR d2 d3 md b) : HalfR d d3 a b := by
  have q1 := M.ams; have q2 := M.sum; have q3 := M.mid
  obtain ⟨p1, p2⟩ := sym_join ham hb (by omega) q1.1 q1.2.1 q1.2.2.1 q1.2.2.2 q2 hs1 hs2 M.le M.gt R.perm R.lo R.hi hL.perm hL.sorted hR.perm hR.sorted
  exact ⟨p1, p2, (R.same.trans hL.same).trans hR.same⟩

end Go.Proofs.Ytibmnkdeepmabaa
