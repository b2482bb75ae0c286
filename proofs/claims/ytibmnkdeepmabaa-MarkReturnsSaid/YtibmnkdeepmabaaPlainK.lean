/- Plain: which bytes a delta keeps, and where positions move. No program. No condition. -/
import Derived.Test.YtibmnkdeepmabaaRunsP
namespace Go.Proofs.Ytibmnkdeepmabaa

/-- the byte at i is kept, and lies at j in the result -/
def KP (xs : List Rn) (i j : Int) : Prop := ∃ r ∈ xs, r.a ≤ i ∧ i < r.a + r.n ∧ j = r.o + (i - r.a)
theorem KP.cons {r : Rn} {l : List Rn} {i j : Int} : KP (r :: l) i j ↔ (r.a ≤ i ∧ i < r.a + r.n ∧ j = r.o + (i - r.a)) ∨ KP l i j := by
  unfold KP
  constructor
  · rintro ⟨s, hs, h⟩
    rcases List.mem_cons.1 hs with rfl | hs
    · exact .inl h
    · exact .inr ⟨s, hs, h⟩
  · rintro (h | ⟨s, hs, h⟩)
    · exact ⟨r, by simp, h⟩
    · exact ⟨s, by simp [hs], h⟩
theorem KP.nil {i j : Int} : ¬ KP [] i j := by rintro ⟨r, hr, _⟩; cases hr
theorem left_le {x : Int} : ∀ (xs : List Rn) (o q : Int), xs.Pairwise upR → (∀ r ∈ xs, 1 ≤ r.n ∧ o ≤ r.o) → (leftP x o xs ≤ q ↔ o ≤ q ∧ ∀ i j, KP xs i j → i < x → j < q)
  | [], o, q, _, _ => ⟨fun h => ⟨h, fun i j hk => absurd hk KP.nil⟩, fun h => h.1⟩
  | r :: l, o, q, hp, hn => by
    rw [List.pairwise_cons] at hp
    obtain ⟨n1, n2⟩ := hn r (by simp)
    rw [leftP]
    by_cases hx : x ≤ r.a
    · rw [if_pos hx]
      refine ⟨fun h => ⟨h, fun i j hk hi => ?_⟩, fun h => h.1⟩
      rcases KP.cons.1 hk with ⟨h1, h2, h3⟩ | ⟨s, hs, h1, h2, h3⟩
      · omega
      · have := (hp.1 s hs).1; omega
    · rw [if_neg hx, left_le l (r.o + min r.n (x - r.a)) q hp.2 (fun s hs => ⟨(hn s (by simp [hs])).1, by have := (hp.1 s hs).2; omega⟩)]
      constructor
      · rintro ⟨h1, h2⟩
        refine ⟨by omega, fun i j hk hi => ?_⟩
        rcases KP.cons.1 hk with ⟨k1, k2, k3⟩ | hk
        · omega
        · exact h2 i j hk hi
      · rintro ⟨h1, h2⟩
        refine ⟨?_, fun i j hk hi => h2 i j (KP.cons.2 (.inr hk)) hi⟩
        have := h2 (r.a + (min r.n (x - r.a) - 1)) (r.o + (min r.n (x - r.a) - 1)) (KP.cons.2 (.inl ⟨by omega, by omega, by omega⟩)) (by omega)
        omega
theorem le_right {x e : Int} : ∀ (xs : List Rn) (q : Int), xs.Pairwise upR → (∀ r ∈ xs, 1 ≤ r.n ∧ r.o + r.n ≤ e) → (q ≤ rightP x e xs ↔ q ≤ e ∧ ∀ i j, KP xs i j → x ≤ i → q ≤ j)
  | [], q, _, _ => ⟨fun h => ⟨h, fun i j hk => absurd hk KP.nil⟩, fun h => h.1⟩
  | r :: l, q, hp, hn => by
    rw [List.pairwise_cons] at hp
    obtain ⟨n1, n2⟩ := hn r (by simp)
    rw [rightP]
    by_cases hx : x < r.a + r.n
    · rw [if_pos hx]
      constructor
      · intro h
        refine ⟨by omega, fun i j hk hi => ?_⟩
        rcases KP.cons.1 hk with ⟨h1, h2, h3⟩ | ⟨s, hs, h1, h2, h3⟩
        · omega
        · have := (hp.1 s hs).2; omega
      · rintro ⟨h1, h2⟩
        have := h2 (r.a + max 0 (x - r.a)) (r.o + max 0 (x - r.a)) (KP.cons.2 (.inl ⟨by omega, by omega, by omega⟩)) (by omega)
        omega
    · rw [if_neg hx, le_right l q hp.2 (fun s hs => hn s (by simp [hs]))]
      refine ⟨fun h => ⟨h.1, fun i j hk hi => ?_⟩, fun h => ⟨h.1, fun i j hk hi => h.2 i j (KP.cons.2 (.inr hk)) hi⟩⟩
      rcases KP.cons.1 hk with ⟨h1, h2, h3⟩ | hk
      · omega
      · exact h.2 i j hk hi
theorem kept_iff {x z : Int} : ∀ xs : List Rn, xs.Pairwise upR → (∀ r ∈ xs, 1 ≤ r.n) → (keptP x xs = some z ↔ KP xs x z)
  | [], _, _ => ⟨fun h => (by cases h), fun h => absurd h KP.nil⟩
  | r :: l, hp, hn => by
    rw [List.pairwise_cons] at hp
    rw [keptP, KP.cons]
    by_cases hx : r.a ≤ x ∧ x < r.a + r.n
    · rw [if_pos hx]
      constructor
      · intro h
        injection h with h
        exact .inl ⟨hx.1, hx.2, by omega⟩
      · rintro (⟨h1, h2, h3⟩ | ⟨s, hs, h1, h2, h3⟩)
        · congr 1; omega
        · have := (hp.1 s hs).1; omega
    · rw [if_neg hx, kept_iff l hp.2 (fun s hs => hn s (by simp [hs]))]
      exact ⟨.inr, fun h => h.elim (fun h => absurd ⟨h.1, h.2.1⟩ hx) id⟩
theorem up_mem : ∀ xs : List Rn, xs.Pairwise upR → ∀ r ∈ xs, ∀ s ∈ xs, r = s ∨ upR r s ∨ upR s r
  | [], _, r, hr, _, _ => by cases hr
  | x :: l, hp, r, hr, s, hs => by
    rw [List.pairwise_cons] at hp
    rcases List.mem_cons.1 hr with h | h <;> rcases List.mem_cons.1 hs with k | k
    · exact .inl (h.trans k.symm)
    · exact .inr (.inl (h ▸ hp.1 s k))
    · exact .inr (.inr (k ▸ hp.1 r h))
    · exact up_mem l hp.2 r h s k
theorem KP.mono {xs : List Rn} (hp : xs.Pairwise upR) {i j i' j' : Int} (h : KP xs i j) (k : KP xs i' j') : i < i' ↔ j < j' := by
  obtain ⟨r, hr, h1, h2, h3⟩ := h
  obtain ⟨s, hs, k1, k2, k3⟩ := k
  rcases up_mem xs hp r hr s hs with rfl | ⟨e1, e2⟩ | ⟨e1, e2⟩ <;> omega
theorem KP.turn {xs : List Rn} {i j : Int} : KP (xs.map turnR) j i ↔ KP xs i j := by
  unfold KP
  constructor
  · rintro ⟨r, hr, h1, h2, h3⟩
    obtain ⟨s, hs, rfl⟩ := List.mem_map.1 hr
    simp only [turnR] at h1 h2 h3
    exact ⟨s, hs, by omega, by omega, by omega⟩
  · rintro ⟨r, hr, h1, h2, h3⟩
    refine ⟨turnR r, List.mem_map.2 ⟨r, hr, rfl⟩, ?_⟩
    simp only [turnR]
    omega
/-- what is kept, by the atoms -/
theorem KP.atoms {l : List Pc} : ∀ {a o : Int}, Val l → 0 ≤ a → ∀ i j : Int, (KP (runsS a o l) i j ↔ 0 ≤ i ∧ ∃ k : Nat, j = o + k ∧ (atoms a l)[k]? = some i) := by
  induction l with
  | nil => intro a o _ _ i j; exact ⟨fun h => absurd h KP.nil, fun ⟨_, k, _, h⟩ => by simp [Ytibmnkdeepmabaa.atoms] at h⟩
  | cons p l ih =>
    intro a o h h0 i j
    obtain ⟨v1, v2⟩ := Val.cons.1 h
    have hn := Val.n v1
    simp only [runsS, Ytibmnkdeepmabaa.atoms]
    rcases Pc.valid_cases v1 with ⟨x, y, z⟩ | ⟨x, y, z⟩ | ⟨x, y, z⟩
    · rw [if_pos x, if_pos x, z, lets_nil, List.nil_append, KP.cons, ih (o := o + p.n) v2 (by omega)]
      have hrng : ∀ k : Nat, (rng a p.n.toNat)[k]? = if k < p.n.toNat then some (a + k) else none := fun k => by
        unfold rng
        rw [List.getElem?_map]
        by_cases hk : k < p.n.toNat
        · simp [hk]
        · simp [hk]
      constructor
      · rintro (⟨h1, h2, h3⟩ | ⟨h1, k, h2, h3⟩)
        · dsimp only at h1 h2 h3
          refine ⟨by omega, (i - a).toNat, by omega, ?_⟩
          rw [List.getElem?_append_left (by rw [rng_len]; omega), hrng, if_pos (by omega)]
          congr 1; omega
        · refine ⟨h1, p.n.toNat + k, by omega, ?_⟩
          rw [List.getElem?_append_right (by rw [rng_len]; omega), rng_len]
          rw [show p.n.toNat + k - p.n.toNat = k by omega]
          exact h3
      · rintro ⟨h1, k, h2, h3⟩
        by_cases hk : k < p.n.toNat
        · rw [List.getElem?_append_left (by rw [rng_len]; omega), hrng, if_pos hk] at h3
          injection h3 with h3
          exact .inl ⟨by dsimp only; omega, by dsimp only; omega, by dsimp only; omega⟩
        · rw [List.getElem?_append_right (by rw [rng_len]; omega), rng_len] at h3
          exact .inr ⟨h1, k - p.n.toNat, by omega, h3⟩
    · rw [if_neg (by omega), if_pos x, if_neg (by omega), z, lets_nil, List.nil_append, List.nil_append, ih (o := o) v2 (by omega)]
    · rw [if_neg (by omega), if_neg (by omega), if_neg (by omega), List.nil_append, y, Int.add_zero, ih (o := o + p.t.length) v2 h0]
      constructor
      · rintro ⟨h1, k, h2, h3⟩
        refine ⟨h1, p.t.length + k, by omega, ?_⟩
        rw [List.getElem?_append_right (by rw [lets_len]; omega), lets_len, show p.t.length + k - p.t.length = k by omega]
        exact h3
      · rintro ⟨h1, k, h2, h3⟩
        by_cases hk : k < p.t.length
        · rw [List.getElem?_append_left (by rw [lets_len]; omega)] at h3
          have := mem_lets (List.mem_of_getElem? h3)
          omega
        · rw [List.getElem?_append_right (by rw [lets_len]; omega), lets_len] at h3
          exact ⟨h1, k - p.t.length, by omega, h3⟩

theorem runs_in (l : List Pc) : ∀ a o : Int, Val l → ∀ r ∈ runsS a o l, 1 ≤ r.n ∧ a ≤ r.a ∧ r.a + r.n ≤ a + inL l ∧ o ≤ r.o ∧ r.o + r.n ≤ o + outL l := by
  induction l with
  | nil => intro a o _ r hr; cases hr
  | cons p l ih =>
    intro a o h r hr
    obtain ⟨v1, v2⟩ := Val.cons.1 h
    have hn := Val.n v1
    have i1 := Val.inL v2
    have i2 := Val.outL v2
    simp only [runsS] at hr
    simp only [inL, outL]
    rcases Pc.valid_cases v1 with ⟨x, y, z⟩ | ⟨x, y, z⟩ | ⟨x, y, z⟩
    · have e : p.out = p.n := by simp [Pc.out, x]
      rw [if_pos x] at hr
      rcases List.mem_cons.1 hr with rfl | hr
      · dsimp only; omega
      · have := ih _ _ v2 r hr; omega
    · have e : p.out = 0 := by simp [Pc.out, x]
      rw [if_neg (by omega), if_pos x] at hr
      have := ih _ _ v2 r hr; omega
    · have e : p.out = p.t.length := by simp [Pc.out, x]
      rw [if_neg (by omega), if_neg (by omega)] at hr
      have := ih _ _ v2 r hr; omega
/-- input and output length, the right way round -/
def ioL (t : Bool) (l : List Pc) : Int × Int := if t then (outL l, inL l) else (inL l, outL l)
theorem runsT_in {l : List Pc} (h : Val l) (t : Bool) : ∀ r ∈ runsT t l, 1 ≤ r.n ∧ 0 ≤ r.a ∧ r.a + r.n ≤ (ioL t l).1 ∧ 0 ≤ r.o ∧ r.o + r.n ≤ (ioL t l).2 := by
  have h1 := runs_in l 0 0 h
  simp only [Int.zero_add] at h1
  cases t
  · exact h1
  · intro r hr
    obtain ⟨s, hs, rfl⟩ := List.mem_map.1 (show r ∈ (runsS 0 0 l).map turnR from hr)
    obtain ⟨k1, k2, k3, k4, k5⟩ := h1 s hs
    exact ⟨k1, k4, k5, k2, k3⟩
def KT (t : Bool) (l : List Pc) (i j : Int) : Prop := KP (runsT t l) i j
theorem KT.turn {l : List Pc} {i j : Int} : KT true l j i ↔ KT false l i j := KP.turn
theorem KT.bd {l : List Pc} (h : Val l) {t : Bool} {i j : Int} (k : KT t l i j) : 0 ≤ i ∧ i < (ioL t l).1 ∧ 0 ≤ j ∧ j < (ioL t l).2 := by
  obtain ⟨r, hr, k1, k2, k3⟩ := k
  have := runsT_in h t r hr
  omega
theorem KT.mono {l : List Pc} (h : Val l) {t : Bool} {i j i' j' : Int} (k : KT t l i j) (k' : KT t l i' j') : i < i' ↔ j < j' := KP.mono (runsT_up h t) k k'
theorem leftL {l : List Pc} (h : Val l) (t : Bool) (x q : Int) : leftP x 0 (runsT t l) ≤ q ↔ 0 ≤ q ∧ ∀ i j, KT t l i j → i < x → j < q :=
  left_le _ 0 q (runsT_up h t) (fun r hr => by have := runsT_in h t r hr; omega)
theorem rightL {l : List Pc} (h : Val l) (t : Bool) (x q : Int) : q ≤ rightP x (ioL t l).2 (runsT t l) ↔ q ≤ (ioL t l).2 ∧ ∀ i j, KT t l i j → x ≤ i → q ≤ j :=
  le_right _ q (runsT_up h t) (fun r hr => by have := runsT_in h t r hr; omega)
theorem keptL {l : List Pc} (h : Val l) (t : Bool) (x z : Int) : keptP x (runsT t l) = some z ↔ KT t l x z :=
  kept_iff _ (runsT_up h t) (fun r hr => by have := runsT_in h t r hr; omega)
theorem KT.atoms {l : List Pc} (h : Val l) {i j : Int} : KT false l i j ↔ 0 ≤ i ∧ ∃ k : Nat, j = k ∧ (atoms 0 l)[k]? = some i := by
  have := KP.atoms (a := 0) (o := 0) h (Int.le_refl _) i j
  simp only [Int.zero_add] at this
  exact this
theorem KT.form {l : List Pc} (h : Val l) {t : Bool} {i j : Int} : KT t (formS l) i j ↔ KT t l i j := by
  have key : ∀ i j, KT false (formS l) i j ↔ KT false l i j := fun i j => by
    obtain ⟨h1, h2, _⟩ := formS_ok h
    rw [KT.atoms h1, KT.atoms h, h2]
  cases t
  · exact key i j
  · rw [KT.turn, KT.turn]; exact key j i
theorem ioL_form {l : List Pc} (h : Val l) (t : Bool) : ioL t (formS l) = ioL t l := by
  unfold ioL
  rw [(formS_ok h).2.2, outL_formS h]
/-- positions and kept bytes depend on what is kept alone -/
theorem left_congr {l m : List Pc} (h : Val l) (k : Val m) (t u : Bool) (hk : ∀ i j, KT t l i j ↔ KT u m i j) (x : Int) : leftP x 0 (runsT t l) = leftP x 0 (runsT u m) := by
  refine Int.le_antisymm ?_ ?_
  · rw [leftL h t]
    have := (leftL k u x (leftP x 0 (runsT u m))).1 (Int.le_refl _)
    exact ⟨this.1, fun i j hij hi => this.2 i j ((hk i j).1 hij) hi⟩
  · rw [leftL k u]
    have := (leftL h t x (leftP x 0 (runsT t l))).1 (Int.le_refl _)
    exact ⟨this.1, fun i j hij hi => this.2 i j ((hk i j).2 hij) hi⟩
theorem right_congr {l m : List Pc} (h : Val l) (k : Val m) (t u : Bool) (hk : ∀ i j, KT t l i j ↔ KT u m i j) (he : (ioL t l).2 = (ioL u m).2) (x : Int) : rightP x (ioL t l).2 (runsT t l) = rightP x (ioL u m).2 (runsT u m) := by
  refine Int.le_antisymm ?_ ?_
  · rw [rightL k u]
    have := (rightL h t x (rightP x (ioL t l).2 (runsT t l))).1 (Int.le_refl _)
    exact ⟨by omega, fun i j hij hi => this.2 i j ((hk i j).2 hij) hi⟩
  · rw [rightL h t]
    have := (rightL k u x (rightP x (ioL u m).2 (runsT u m))).1 (Int.le_refl _)
    exact ⟨by omega, fun i j hij hi => this.2 i j ((hk i j).1 hij) hi⟩
/-- a greater position moves to one that is at least as great -/
theorem left_mono {l : List Pc} (h : Val l) (t : Bool) {x y : Int} (hxy : x ≤ y) : leftP x 0 (runsT t l) ≤ leftP y 0 (runsT t l) := by
  rw [leftL h t]
  have := (leftL h t y (leftP y 0 (runsT t l))).1 (Int.le_refl _)
  exact ⟨this.1, fun i j hij hi => this.2 i j hij (by omega)⟩
theorem right_mono {l : List Pc} (h : Val l) (t : Bool) {x y : Int} (hxy : x ≤ y) : rightP x (ioL t l).2 (runsT t l) ≤ rightP y (ioL t l).2 (runsT t l) := by
  rw [rightL h t y]
  have := (rightL h t x (rightP x (ioL t l).2 (runsT t l))).1 (Int.le_refl _)
  exact ⟨this.1, fun i j hij hi => this.2 i j hij (by omega)⟩
theorem ioL_nonneg {l : List Pc} (h : Val l) (t : Bool) : 0 ≤ (ioL t l).1 ∧ 0 ≤ (ioL t l).2 := by
  have h1 := Val.inL h
  have h2 := Val.outL h
  cases t
  · exact ⟨h1, h2⟩
  · exact ⟨h2, h1⟩
theorem left_right {l : List Pc} (h : Val l) (t : Bool) (x : Int) : leftP x 0 (runsT t l) ≤ rightP x (ioL t l).2 (runsT t l) := by
  rw [leftL h t]
  refine ⟨?_, fun i j hij hi => ?_⟩
  · rw [rightL h t]
    exact ⟨(ioL_nonneg h t).2, fun i j hij _ => (KT.bd h hij).2.2.1⟩
  · have : j + 1 ≤ rightP x (ioL t l).2 (runsT t l) := by
      rw [rightL h t]
      refine ⟨by have := (KT.bd h hij).2.2.2; omega, fun i' j' hij' hi' => ?_⟩
      have := (KT.mono h hij hij').1 (by omega)
      omega
    omega
theorem left_bd {l : List Pc} (h : Val l) (t : Bool) (x : Int) : 0 ≤ leftP x 0 (runsT t l) ∧ leftP x 0 (runsT t l) ≤ (ioL t l).2 := by
  refine ⟨((leftL h t x _).1 (Int.le_refl _)).1, ?_⟩
  rw [leftL h t]
  exact ⟨(ioL_nonneg h t).2, fun i j hij _ => (KT.bd h hij).2.2.2⟩
theorem right_bd {l : List Pc} (h : Val l) (t : Bool) (x : Int) : 0 ≤ rightP x (ioL t l).2 (runsT t l) ∧ rightP x (ioL t l).2 (runsT t l) ≤ (ioL t l).2 := by
  refine ⟨?_, ((rightL h t x _).1 (Int.le_refl _)).1⟩
  rw [rightL h t]
  exact ⟨(ioL_nonneg h t).2, fun i j hij _ => (KT.bd h hij).2.2.1⟩
/-- left and right back, right and left back -/
theorem adjoint {l : List Pc} (h : Val l) {x q : Int} (hx : 0 ≤ x) (hx' : x ≤ inL l) (hq : 0 ≤ q) (hq' : q ≤ outL l) :
    (leftP x 0 (runsT false l) ≤ q ↔ x ≤ rightP q (inL l) (runsT true l)) ∧ (q ≤ rightP x (outL l) (runsT false l) ↔ leftP q 0 (runsT true l) ≤ x) := by
  have r1 := rightL h true q x
  have r2 := rightL h false x q
  simp only [ioL, if_true, Bool.false_eq_true, if_false] at r1 r2
  rw [leftL h false, r1, r2, leftL h true]
  constructor
  · constructor
    · rintro ⟨_, h1⟩
      exact ⟨hx', fun i j hij hi => Classical.byContradiction fun hc => by have := h1 j i (KT.turn.1 hij) (by omega); omega⟩
    · rintro ⟨_, h1⟩
      exact ⟨hq, fun i j hij hi => Classical.byContradiction fun hc => by have := h1 j i (KT.turn.2 hij) (by omega); omega⟩
  · constructor
    · rintro ⟨_, h1⟩
      exact ⟨hx, fun i j hij hi => Classical.byContradiction fun hc => by have := h1 j i (KT.turn.1 hij) (by omega); omega⟩
    · rintro ⟨_, h1⟩
      exact ⟨hq', fun i j hij hi => Classical.byContradiction fun hc => by have := h1 j i (KT.turn.2 hij) (by omega); omega⟩

end Go.Proofs.Ytibmnkdeepmabaa
