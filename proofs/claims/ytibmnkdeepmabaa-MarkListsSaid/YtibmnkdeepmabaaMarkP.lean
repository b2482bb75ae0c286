/- Plain theory of sets of marks: what Check says, the place of an ID, a set with a mark, a set without one. -/
import Derived.Test.YtibmnkdeepmabaaMark2
namespace Go.Proofs.Ytibmnkdeepmabaa

/-- how many marks lie ahead of an ID -/
def plc (d : Int) (l : List Mk) : Nat := (l.takeWhile (fun m => decide (m.id < d))).length
def hasB (d : Int) (l : List Mk) : Bool := match l[plc d l]? with | some m => m.id == d | none => false
theorem plc_le (d : Int) (l : List Mk) : plc d l ≤ l.length := by
  unfold plc
  have := (List.takeWhile_prefix (fun m : Mk => decide (m.id < d)) (l := l)).length_le
  exact this
theorem plc_eq (d : Int) : ∀ (l : List Mk) (k : Nat), k ≤ l.length → (∀ t (h : t < l.length), t < k → l[t].id < d) → (∀ h : k < l.length, d ≤ l[k].id) → plc d l = k
  | [], k, hk, _, _ => by simp at hk; subst hk; rfl
  | m :: r, 0, _, _, h2 => by
    have := h2 (by simp)
    simp only [List.getElem_cons_zero] at this
    unfold plc
    rw [List.takeWhile_cons, if_neg (by simp; omega)]
    rfl
  | m :: r, k + 1, hk, h1, h2 => by
    have h0 := h1 0 (by simp) (by omega)
    simp only [List.getElem_cons_zero] at h0
    have ih := plc_eq d r k (by simpa using hk) (fun t h ht => h1 (t + 1) (by rw [List.length_cons]; omega) (by omega)) (fun h => h2 (by rw [List.length_cons]; omega))
    unfold plc at ih ⊢
    rw [List.takeWhile_cons, if_pos (by simpa using h0), List.length_cons, ih]

/-- a set of marks for a string of n bytes -/
structure MSet (n : Int) (l : List Mk) : Prop where
  n0 : 0 ≤ n
  len : l.length ≤ 64
  pw : l.Pairwise (fun a b => a.id < b.id)
  all : ∀ m, m ∈ l → 0 < m.id ∧ m.g ≤ 1 ∧ 0 ≤ m.a ∧ m.a ≤ n

theorem chkG_zero (n : Int) : ∀ (l : List Mk) (x : Int), chkG n x l = 0 ↔ l.Pairwise (fun a b => a.id < b.id) ∧ ∀ m, m ∈ l → x < m.id ∧ m.g ≤ 1 ∧ 0 ≤ m.a ∧ m.a ≤ n
  | [], x => by simp [chkG]
  | m :: r, x => by
    unfold chkG
    by_cases h1 : m.id ≤ x ∨ 1 < m.g
    · rw [if_pos h1]
      constructor
      · intro h; cases h
      · rintro ⟨-, h⟩
        have := h m (List.mem_cons_self ..)
        omega
    · rw [if_neg h1]
      by_cases h2 : m.a < 0 ∨ n < m.a
      · rw [if_pos h2]
        constructor
        · intro h; cases h
        · rintro ⟨-, h⟩
          have := h m (List.mem_cons_self ..)
          omega
      · rw [if_neg h2, chkG_zero n r m.id, List.pairwise_cons]
        constructor
        · rintro ⟨hp, ha⟩
          refine ⟨⟨fun b hb => (ha b hb).1, hp⟩, ?_⟩
          intro b hb
          rcases List.mem_cons.1 hb with rfl | hb
          · omega
          · have := ha b hb
            omega
        · rintro ⟨⟨hp1, hp2⟩, ha⟩
          refine ⟨hp2, fun b hb => ?_⟩
          have := ha b (List.mem_cons_of_mem _ hb)
          have := hp1 b hb
          omega

theorem chkM_zero (n : Int) (l : List Mk) : chkM n l = 0 ↔ MSet n l := by
  unfold chkM
  by_cases h1 : n < 0
  · rw [if_pos h1]
    exact ⟨fun h => (by cases h), fun h => absurd h.n0 (by omega)⟩
  rw [if_neg h1]
  by_cases h2 : 64 < l.length
  · rw [if_pos h2]
    exact ⟨fun h => (by cases h), fun h => absurd h.len (by omega)⟩
  rw [if_neg h2, chkG_zero]
  exact ⟨fun ⟨a, b⟩ => ⟨by omega, by omega, a, b⟩, fun h => ⟨h.pw, h.all⟩⟩

theorem MSet.mono {n k : Int} {l : List Mk} (h : MSet n l) (hk : n ≤ k) : MSet k l :=
  ⟨Int.le_trans h.n0 hk, h.len, h.pw, fun m hm => by have := h.all m hm; omega⟩

theorem pw_index {l : List Mk} (h : l.Pairwise (fun a b => a.id < b.id)) (i j : Nat) (hi : i < l.length) (hj : j < l.length) (hij : i ≤ j) : l[i].id ≤ l[j].id := by
  rcases Nat.lt_or_ge i j with q | q
  · exact Int.le_of_lt (List.pairwise_iff_getElem.1 h i j hi hj q)
  · obtain rfl : i = j := by omega
    exact Int.le_refl _

/-- a list cut at the place of an ID -/
theorem pw_cut (d : Int) : ∀ (l : List Mk), l.Pairwise (fun a b => a.id < b.id) → ∃ L R, l = L ++ R ∧ l.takeWhile (fun m => decide (m.id < d)) = L ∧ l.dropWhile (fun m => decide (m.id < d)) = R ∧ (∀ m, m ∈ L → m.id < d) ∧ (∀ m, m ∈ R → d ≤ m.id)
  | [], _ => ⟨[], [], rfl, rfl, rfl, by simp, by simp⟩
  | m :: r, h => by
    rw [List.pairwise_cons] at h
    by_cases q : m.id < d
    · obtain ⟨L, R, h1, h2, h3, h4, h5⟩ := pw_cut d r h.2
      refine ⟨m :: L, R, by rw [h1]; rfl, by rw [List.takeWhile_cons, if_pos (by simpa using q), h2], by rw [List.dropWhile_cons, if_pos (by simpa using q), h3], ?_, h5⟩
      intro b hb
      rcases List.mem_cons.1 hb with rfl | hb
      · exact q
      · exact h4 b hb
    · refine ⟨[], m :: r, rfl, by rw [List.takeWhile_cons, if_neg (by simpa using q)], by rw [List.dropWhile_cons, if_neg (by simpa using q)], by simp, ?_⟩
      intro b hb
      rcases List.mem_cons.1 hb with rfl | hb
      · omega
      · have := h.1 b hb
        omega

theorem wo9_none {d : Int} {l : List Mk} (h : ∀ m, m ∈ l → m.id ≠ d) : wo9 d l = l := List.filter_eq_self.2 (fun m hm => by simpa using h m hm)
theorem wo9_append (d : Int) (a b : List Mk) : wo9 d (a ++ b) = wo9 d a ++ wo9 d b := List.filter_append ..
theorem takeWhile_all {d : Int} : ∀ (L R : List Mk), (∀ m, m ∈ L → m.id < d) → (∀ m, m ∈ R → d ≤ m.id) → (L ++ R).takeWhile (fun m => decide (m.id < d)) = L ∧ (L ++ R).dropWhile (fun m => decide (m.id < d)) = R
  | [], [], _, _ => ⟨rfl, rfl⟩
  | [], m :: r, _, h => by
    have := h m (List.mem_cons_self ..)
    rw [List.nil_append, List.takeWhile_cons, if_neg (by simp; omega), List.dropWhile_cons, if_neg (by simp; omega)]
    exact ⟨rfl, rfl⟩
  | m :: r, R, h1, h2 => by
    have := h1 m (List.mem_cons_self ..)
    obtain ⟨e1, e2⟩ := takeWhile_all r R (fun b hb => h1 b (List.mem_cons_of_mem _ hb)) h2
    rw [List.cons_append, List.takeWhile_cons, if_pos (by simpa using this), List.dropWhile_cons, if_pos (by simpa using this), e1, e2]
    exact ⟨rfl, rfl⟩

/-- the set with a mark -/
def setR (l : List Mk) (m : Mk) : List Mk := (wo9 m.id l).takeWhile (fun x => decide (x.id < m.id)) ++ m :: (wo9 m.id l).dropWhile (fun x => decide (x.id < m.id))

/-- the two shapes of a set of marks at an ID -/
theorem set_shape {l : List Mk} (h : l.Pairwise (fun a b => a.id < b.id)) (d : Int) :
    (∃ L x R, l = L ++ x :: R ∧ x.id = d ∧ plc d l = L.length ∧ hasB d l = true ∧ fndM d l = some x ∧ wo9 d l = L ++ R ∧ (∀ m, m ∈ L → m.id < d) ∧ (∀ m, m ∈ R → d < m.id)) ∨
    (∃ L R, l = L ++ R ∧ plc d l = L.length ∧ hasB d l = false ∧ fndM d l = none ∧ wo9 d l = l ∧ (∀ m, m ∈ L → m.id < d) ∧ (∀ m, m ∈ R → d < m.id)) := by
  obtain ⟨L, R, h1, h2, h3, h4, h5⟩ := pw_cut d l h
  have hp : plc d l = L.length := by rw [plc, h2]
  have hL : ∀ m, m ∈ L → m.id ≠ d := fun m hm => by have := h4 m hm; omega
  have fL : L.find? (fun m => m.id == d) = none := List.find?_eq_none.2 (fun m hm => by simpa using hL m hm)
  cases R with
  | nil =>
    rw [List.append_nil] at h1
    refine .inr ⟨L, [], by rw [List.append_nil]; exact h1, hp, ?_, ?_, ?_, h4, by simp⟩
    · rw [hasB, hp, h1, List.getElem?_eq_none (Nat.le_refl _)]
    · rw [fndM, h1, fL]
    · rw [h1]; exact wo9_none hL
  | cons x R =>
    have hx := h5 x (List.mem_cons_self ..)
    rw [h1] at h
    have hR := (List.pairwise_cons.1 (List.pairwise_append.1 h).2.1).1
    have hg : l[L.length]? = some x := by rw [h1, List.getElem?_append_right (Nat.le_refl _)]; simp
    by_cases q : x.id = d
    · refine .inl ⟨L, x, R, h1, q, hp, ?_, ?_, ?_, h4, fun m hm => by have := hR m hm; omega⟩
      · rw [hasB, hp, hg]; simpa using q
      · rw [fndM, h1, List.find?_append, fL, List.find?_cons_of_pos (by simpa using q)]; rfl
      · rw [h1, wo9_append, wo9_none hL]
        congr 1
        rw [wo9, List.filter_cons_of_neg (by simpa using q)]
        exact wo9_none (fun m hm => by have := hR m hm; omega)
    · have hR2 : ∀ m, m ∈ x :: R → d < m.id := fun m hm => by
        rcases List.mem_cons.1 hm with rfl | hm
        · omega
        · have := hR m hm
          omega
      have hne : ∀ m, m ∈ l → m.id ≠ d := fun m hm => by
        rw [h1] at hm
        rcases List.mem_append.1 hm with hm | hm
        · exact hL m hm
        · have := hR2 m hm; omega
      refine .inr ⟨L, x :: R, h1, hp, ?_, ?_, wo9_none hne, h4, hR2⟩
      · rw [hasB, hp, hg]; simpa using q
      · exact List.find?_eq_none.2 (fun m hm => by simpa using hne m hm)

theorem has_fnd {l : List Mk} (h : l.Pairwise (fun a b => a.id < b.id)) (d : Int) : hasB d l = fndB d l := by
  rcases set_shape h d with ⟨L, x, R, h1, h2, h3, h4, h5, -⟩ | ⟨L, R, h1, h2, h3, h4, -⟩
  · rw [h4, fndB, h5]; rfl
  · rw [h3, fndB, h4]; rfl

theorem setR_found {l : List Mk} (h : l.Pairwise (fun a b => a.id < b.id)) {m : Mk} (hb : hasB m.id l = true) : plc m.id l < l.length ∧ setR l m = l.set (plc m.id l) m := by
  rcases set_shape h m.id with ⟨L, x, R, h1, h2, h3, h4, h5, h6, h7, h8⟩ | ⟨L, R, h1, h2, h3, h4, -⟩
  · obtain ⟨e1, e2⟩ := takeWhile_all L R h7 (fun b hb => Int.le_of_lt (h8 b hb))
    refine ⟨by rw [h3, h1]; simp, ?_⟩
    rw [setR, h6, e1, e2, h3, h1, List.set_append_right _ _ (Nat.le_refl _)]
    simp
  · rw [h3] at hb; cases hb
theorem setR_new {l : List Mk} (h : l.Pairwise (fun a b => a.id < b.id)) {m : Mk} (hb : hasB m.id l = false) : plc m.id l ≤ l.length ∧ setR l m = l.take (plc m.id l) ++ m :: l.drop (plc m.id l) ∧ wo9 m.id l = l := by
  rcases set_shape h m.id with ⟨L, x, R, h1, h2, h3, h4, h5, h6, h7, h8⟩ | ⟨L, R, h1, h2, h3, h4, h5, h6, h7⟩
  · rw [h4] at hb; cases hb
  · obtain ⟨e1, e2⟩ := takeWhile_all L R h6 (fun b hb => Int.le_of_lt (h7 b hb))
    refine ⟨by rw [h2, h1]; simp, ?_, h5⟩
    rw [setR, h5, h2, h1, e1, e2, List.take_left, List.drop_left]
theorem drop_found {l : List Mk} (h : l.Pairwise (fun a b => a.id < b.id)) {d : Int} (hb : hasB d l = true) : plc d l < l.length ∧ wo9 d l = l.take (plc d l) ++ l.drop (plc d l + 1) := by
  rcases set_shape h d with ⟨L, x, R, h1, h2, h3, h4, h5, h6, h7, h8⟩ | ⟨L, R, h1, h2, h3, h4, -⟩
  · refine ⟨by rw [h3, h1]; simp, ?_⟩
    rw [h6, h3, h1, List.take_left, List.drop_append]
    simp
  · rw [h3] at hb; cases hb
theorem wo9_lt {l : List Mk} (h : l.Pairwise (fun a b => a.id < b.id)) {d : Int} (hb : hasB d l = true) : (wo9 d l).length + 1 = l.length := by
  rcases set_shape h d with ⟨L, x, R, h1, h2, h3, h4, h5, h6, h7, h8⟩ | ⟨L, R, h1, h2, h3, h4, -⟩
  · rw [h6, h1]; simp; omega
  · rw [h3] at hb; cases hb

end Go.Proofs.Ytibmnkdeepmabaa
