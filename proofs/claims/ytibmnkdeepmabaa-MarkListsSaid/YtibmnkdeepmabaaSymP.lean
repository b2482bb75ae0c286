/- Plain theory of the merging in place (slices.symMergeCmpFunc) of marks. -/
import Derived.Test.YtibmnkdeepmabaaRotP
namespace Go.Proofs.Ytibmnkdeepmabaa
open Go.RowKit Go.Sort

theorem swp_comm (D : Array Mk) (i j : Nat) (hi : i < D.size) (hj : j < D.size) : swp D i j = swp D j i := by
  apply Array.ext
  · rw [swp_size, swp_size]
  · intro k h1 h2
    rw [← getElem!_pos (swp D i j) k h1, ← getElem!_pos (swp D j i) k h2, swp_get D hi hj, swp_get D hj hi]
    by_cases q : k = j
    · by_cases q2 : k = i
      · subst q; subst q2; rfl
      · rw [if_pos q, if_neg q2, if_pos q]
    · by_cases q2 : k = i
      · rw [if_neg q, if_pos q2, if_pos q2]
      · rw [if_neg q, if_neg q2, if_neg q2, if_neg q]
theorem le9_trans {x y z : Mk} (h : lt9 y x = false) (k : lt9 z y = false) : lt9 z x = false := swo9.ntrans z y x k h
theorem lt9_le {x y z : Mk} (h : lt9 x y = true) (k : lt9 z y = false) : lt9 x z = true := by
  rw [lt9_iff] at *; rw [lt9_not] at k; omega
theorem le9_lt {x y z : Mk} (h : lt9 y x = false) (k : lt9 y z = true) : lt9 x z = true := by
  rw [lt9_iff] at *; rw [lt9_not] at h; omega
theorem lt9_asym {x y : Mk} (h : lt9 x y = true) : lt9 y x = false := by
  rw [lt9_not]; rw [lt9_iff] at h; omega

/-- the element at a, moved to the right as far as k -/
structure ShR (d : Array Mk) (a b k : Nat) (D : Array Mk) : Prop where
  at_ : D[k]! = d[a]!
  lo : ∀ t, a ≤ t → t < k → D[t]! = d[t + 1]!
  out : ∀ t, t < a ∨ k < t → D[t]! = d[t]!
  same : Same9 d D
  perm : PermIn a b d D
theorem ShR.start (d : Array Mk) (a b : Nat) : ShR d a b a d := ⟨rfl, fun t h1 h2 => by omega, fun _ _ => rfl, Same9.refl d, permIn_refl d a b⟩
theorem ShR.step {d : Array Mk} {a b k : Nat} {D : Array Mk} (h : ShR d a b k D) (ha : a ≤ k) (hk : k + 1 < b) (hb : b ≤ d.size) (hl : lt9 d[k + 1]! d[a]! = true) : ShR d a b (k + 1) (swp D k (k + 1)) := by
  have hs := h.same.1
  have e1 : D[k + 1]! = d[k + 1]! := h.out (k + 1) (.inr (Nat.lt_succ_self k))
  have hc := swp_comm D k (k + 1) (by omega) (by omega)
  have hg := fun t => swp_get D (i := k) (j := k + 1) (by omega) (by omega) t
  refine ⟨?_, fun t h1 h2 => ?_, fun t ht => ?_, ?_, ?_⟩
  · rw [hg, if_pos rfl]; exact h.at_
  · rw [hg, if_neg (by omega)]
    by_cases q : t = k
    · rw [if_pos q, e1, q]
    · rw [if_neg q]; exact h.lo t h1 (by omega)
  · rw [hg, if_neg (by omega), if_neg (by omega)]; exact h.out t (by omega)
  · rw [hc]
    exact h.same.trans (swp_same D k (by omega) (by rw [e1, h.at_]; exact hl))
  · exact permIn_trans d D _ a b h.perm (swp_permIn D a b k (k + 1) ha (by omega) (by omega) hk (by omega))
theorem ShR.sorted {d : Array Mk} {a b i : Nat} {D : Array Mk} (h : ShR d a b (i - 1) D) (hi : a + 1 ≤ i) (hib : i ≤ b) (hs : SortedIn lt9 (a + 1) b d) (h1 : ∀ t, a + 1 ≤ t → t < i → lt9 d[t]! d[a]! = true) (h2 : ∀ t, i ≤ t → t < b → lt9 d[t]! d[a]! = false) : SortedIn lt9 a b D := by
  intro x y hx hxy hy
  rcases Nat.lt_trichotomy y (i - 1) with q | q | q
  · rw [h.lo y (by omega) q, h.lo x hx (by omega)]
    exact hs (x + 1) (y + 1) (by omega) (by omega) (by omega)
  · rw [q, h.at_, h.lo x hx (by omega)]
    exact lt9_asym (h1 (x + 1) (by omega) (by omega))
  · rw [h.out y (.inr q)]
    rcases Nat.lt_trichotomy x (i - 1) with p | p | p
    · rw [h.lo x hx p]
      exact hs (x + 1) y (by omega) (by omega) hy
    · rw [p, h.at_]
      exact h2 y (by omega) hy
    · rw [h.out x (.inr p)]
      exact hs x y (by omega) hxy hy

/-- the element at m, moved to the left as far as k -/
structure ShL (d : Array Mk) (a b m k : Nat) (D : Array Mk) : Prop where
  at_ : D[k]! = d[m]!
  hi : ∀ t, k < t → t ≤ m → D[t]! = d[t - 1]!
  out : ∀ t, t < k ∨ m < t → D[t]! = d[t]!
  same : Same9 d D
  perm : PermIn a b d D
theorem ShL.start (d : Array Mk) (a b m : Nat) : ShL d a b m m d := ⟨rfl, fun t h1 h2 => by omega, fun _ _ => rfl, Same9.refl d, permIn_refl d a b⟩
theorem ShL.step {d : Array Mk} {a b m k : Nat} {D : Array Mk} (h : ShL d a b m (k + 1) D) (ha : a ≤ k) (hk : k + 1 ≤ m) (hm : m < b) (hb : b ≤ d.size) (hl : lt9 d[m]! d[k]! = true) : ShL d a b m k (swp D (k + 1) k) := by
  have hs := h.same.1
  have e1 : D[k]! = d[k]! := h.out k (.inl (Nat.lt_succ_self k))
  have hg := fun t => swp_get D (i := k + 1) (j := k) (by omega) (by omega) t
  refine ⟨?_, fun t h1 h2 => ?_, fun t ht => ?_, ?_, ?_⟩
  · rw [hg, if_pos rfl]; exact h.at_
  · rw [hg, if_neg (by omega)]
    by_cases q : t = k + 1
    · rw [if_pos q, e1, q]; rfl
    · rw [if_neg q]; exact h.hi t (by omega) h2
  · rw [hg, if_neg (by omega), if_neg (by omega)]; exact h.out t (by omega)
  · exact h.same.trans (swp_same D k (by omega) (by rw [e1, h.at_]; exact hl))
  · exact permIn_trans d D _ a b h.perm (swp_permIn D a b (k + 1) k (by omega) (by omega) ha (by omega) (by omega))
theorem ShL.sorted {d : Array Mk} {a m i : Nat} {D : Array Mk} (h : ShL d a (m + 1) m i D) (hi : a ≤ i) (him : i ≤ m) (hs : SortedIn lt9 a m d) (h1 : ∀ t, a ≤ t → t < i → lt9 d[m]! d[t]! = false) (h2 : ∀ t, i ≤ t → t < m → lt9 d[m]! d[t]! = true) : SortedIn lt9 a (m + 1) D := by
  intro x y hx hxy hy
  rcases Nat.lt_trichotomy x i with q | q | q
  · rw [h.out x (.inl q)]
    rcases Nat.lt_trichotomy y i with p | p | p
    · rw [h.out y (.inl p)]
      exact hs x y hx hxy (by omega)
    · rw [p, h.at_]
      exact h1 x hx q
    · rw [h.hi y p (by omega)]
      exact hs x (y - 1) hx (by omega) (by omega)
  · rw [q, h.at_, h.hi y (by omega) (by omega)]
    exact lt9_asym (h2 (y - 1) (by omega) (by omega))
  · rw [h.hi x q (by omega), h.hi y (by omega) (by omega)]
    exact hs (x - 1) (y - 1) (by omega) (by omega) (by omega)

/-- an element of a part that has been permuted stood in it -/
theorem perm_all {D D' : Array Mk} {a b : Nat} (h : PermIn a b D D') (hb : b ≤ D.size) (p : Mk → Prop) (hp : ∀ i, a ≤ i → i < b → p D[i]!) : ∀ i, a ≤ i → i < b → p D'[i]! := permIn_all D D' a b p hb h hp

/-- the general case: what stands where behind the rotation, and the two merges -/
theorem sym_join {d d1 d2 d3 : Array Mk} {a m b s e md : Nat} (ham : a < m) (hb : b ≤ d.size) (hmd : a ≤ md ∧ md ≤ b) (has : a ≤ s) (hsm : s ≤ m) (hme : m ≤ e) (heb : e ≤ b) (hse : md + m = s + e)
    (hs1 : SortedIn lt9 a m d) (hs2 : SortedIn lt9 m b d)
    (hle : ∀ x y, a ≤ x → x < s → e ≤ y → y < b → lt9 d[y]! d[x]! = false) (hgt : ∀ x y, s ≤ x → x < m → m ≤ y → y < e → lt9 d[y]! d[x]! = true)
    (hrot : PermIn s e d d1) (hg : ∀ t, s ≤ t → t < md → d1[t]! = d[t + (m - s)]!) (hg2 : ∀ t, md ≤ t → t < e → d1[t]! = d[t - (md - s)]!)
    (hl : PermIn a md d1 d2) (hl2 : SortedIn lt9 a md d2) (hr : PermIn md b d2 d3) (hr2 : SortedIn lt9 md b d3) : PermIn a b d d3 ∧ SortedIn lt9 a b d3 := by
  have z1 : d1.size = d.size := hrot.1
  have z2 : d2.size = d1.size := hl.1
  have z3 : d3.size = d2.size := hr.1
  have p1 := permIn_mono d d1 s e a b has heb hb hrot
  have p2 := permIn_mono d1 d2 a md a b (Nat.le_refl _) hmd.2 (by omega) hl
  have p3 := permIn_mono d2 d3 md b a b hmd.1 (Nat.le_refl _) (by omega) hr
  refine ⟨permIn_trans d d2 d3 a b (permIn_trans d d1 d2 a b p1 p2) p3, ?_⟩
  have hcross : ∀ x, a ≤ x → x < md → ∀ y, md ≤ y → y < b → lt9 d1[y]! d1[x]! = false := by
    intro x hx hx2 y hy hy2
    by_cases q : x < s
    · rw [hrot.2.1 x (.inl q)]
      by_cases q2 : y < e
      · rw [hg2 y hy q2]
        rcases Nat.lt_or_ge x (y - (md - s)) with q3 | q3
        · exact hs1 x _ hx q3 (by omega)
        · omega
      · rw [hrot.2.1 y (.inr (by omega))]
        exact hle x y hx q (by omega) hy2
    · rw [hg x (by omega) hx2]
      by_cases q2 : y < e
      · rw [hg2 y hy q2]
        exact lt9_asym (hgt (y - (md - s)) (x + (m - s)) (by omega) (by omega) (by omega) (by omega))
      · rw [hrot.2.1 y (.inr (by omega))]
        exact hs2 (x + (m - s)) y (by omega) (by omega) hy2
  have hc2 : ∀ x, a ≤ x → x < md → ∀ y, md ≤ y → y < b → lt9 d2[y]! d2[x]! = false := by
    intro x hx hx2 y hy hy2
    rw [hl.2.1 y (.inr hy)]
    exact perm_all hl (by omega) (fun z => lt9 d1[y]! z = false) (fun t ht ht2 => hcross t ht ht2 y hy hy2) x hx hx2
  intro x y hx hxy hy
  by_cases q : y < md
  · rw [hr.2.1 x (.inl (by omega)), hr.2.1 y (.inl q)]
    exact hl2 x y hx hxy q
  · by_cases q2 : x < md
    · rw [hr.2.1 x (.inl q2)]
      exact perm_all hr (by omega) (fun z => lt9 z d2[x]! = false) (fun t ht ht2 => hc2 x hx q2 t ht ht2) y (by omega) hy
    · exact hr2 x y (by omega) hxy hy
/-- the halves behind the rotation are two sorted parts each -/
theorem sym_left {d d1 : Array Mk} {a m b s e md : Nat} (hsm : s ≤ m) (heb : e ≤ b) (hse : md + m = s + e) (hs1 : SortedIn lt9 a m d) (hs2 : SortedIn lt9 m b d) (hrot : PermIn s e d d1) (hg : ∀ t, s ≤ t → t < md → d1[t]! = d[t + (m - s)]!) :
    SortedIn lt9 a s d1 ∧ SortedIn lt9 s md d1 := by
  constructor
  · intro x y hx hxy hy
    rw [hrot.2.1 x (.inl (by omega)), hrot.2.1 y (.inl hy)]
    exact hs1 x y hx hxy (by omega)
  · intro x y hx hxy hy
    rw [hg x hx (by omega), hg y (by omega) hy]
    exact hs2 _ _ (by omega) (by omega) (by omega)
theorem sym_right {d d1 d2 : Array Mk} {a m b s e md : Nat} (has : a ≤ s) (hsm : s ≤ m) (hme : m ≤ e) (hse : md + m = s + e) (hs1 : SortedIn lt9 a m d) (hs2 : SortedIn lt9 m b d) (hrot : PermIn s e d d1) (hg2 : ∀ t, md ≤ t → t < e → d1[t]! = d[t - (md - s)]!) (hl : PermIn a md d1 d2) :
    SortedIn lt9 md e d2 ∧ SortedIn lt9 e b d2 := by
  constructor
  · intro x y hx hxy hy
    rw [hl.2.1 x (.inr hx), hl.2.1 y (.inr (by omega)), hg2 x hx (by omega), hg2 y (by omega) hy]
    exact hs1 _ _ (by omega) (by omega) (by omega)
  · intro x y hx hxy hy
    rw [hl.2.1 x (.inr (by omega)), hl.2.1 y (.inr (by omega)), hrot.2.1 x (.inr hx), hrot.2.1 y (.inr (by omega))]
    exact hs2 x y (by omega) hxy hy

theorem rot_get {D D' : Array Mk} {P X Y S : List Mk} (h : D.toList = P ++ (X ++ (Y ++ S))) (h' : D'.toList = P ++ (Y ++ (X ++ S))) :
    (∀ t, P.length ≤ t → t < P.length + Y.length → D'[t]! = D[t + X.length]!) ∧ (∀ t, P.length + Y.length ≤ t → t < P.length + X.length + Y.length → D'[t]! = D[t - Y.length]!) := by
  have hs := size_list h
  simp only [List.length_append] at hs
  constructor
  · intro t h1 h2
    have e1 := list_bang D (t + X.length) (by omega)
    refine bang_list D' t ?_
    rw [← e1, h, h', List.getElem?_append_right h1, List.getElem?_append_left (by omega), List.getElem?_append_right (by omega), List.getElem?_append_right (by omega), List.getElem?_append_left (by omega)]
    congr 1
    omega
  · intro t h1 h2
    have e1 := list_bang D (t - Y.length) (by omega)
    refine bang_list D' t ?_
    rw [← e1, h, h', List.getElem?_append_right (by omega), List.getElem?_append_right (by omega), List.getElem?_append_left (by omega), List.getElem?_append_right (by omega), List.getElem?_append_left (by omega)]
    congr 1
    omega

end Go.Proofs.Ytibmnkdeepmabaa
