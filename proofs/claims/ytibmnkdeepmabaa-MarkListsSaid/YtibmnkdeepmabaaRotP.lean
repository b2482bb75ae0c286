/- Plain theory of exchanged and rotated parts of an array of marks. -/
import Derived.Test.YtibmnkdeepmabaaSwap
namespace Go.Proofs.Ytibmnkdeepmabaa
open Go.RowKit Go.Sort

theorem bang_list (D : Array Mk) (k : Nat) {x : Mk} (h : D.toList[k]? = some x) : D[k]! = x := by
  rw [Array.getElem?_toList] at h
  obtain ⟨hk, e⟩ := Array.getElem?_eq_some_iff.1 h
  rw [getElem!_pos D k hk, e]
theorem list_bang (D : Array Mk) (k : Nat) (hk : k < D.size) : D.toList[k]? = some D[k]! := by
  rw [Array.getElem?_toList, Array.getElem?_eq_getElem hk, getElem!_pos D k hk]
theorem swp_at {D : Array Mk} {A B C : List Mk} {x y : Mk} (h : D.toList = A ++ x :: (B ++ y :: C)) : (swp D A.length (A.length + 1 + B.length)).toList = A ++ y :: (B ++ x :: C) := by
  have e1 : D[A.length]! = x := bang_list D _ (by rw [h, List.getElem?_append_right (Nat.le_refl _), Nat.sub_self]; rfl)
  have e2 : D[A.length + 1 + B.length]! = y := bang_list D _ (by
    rw [h, List.getElem?_append_right (by omega), show A.length + 1 + B.length - A.length = B.length + 1 by omega, List.getElem?_cons_succ, List.getElem?_append_right (Nat.le_refl _), Nat.sub_self]; rfl)
  unfold swp
  rw [Array.toList_setIfInBounds, Array.toList_setIfInBounds, e1, e2, h]
  rw [List.set_append_right _ _ (Nat.le_refl _), Nat.sub_self, List.set_cons_zero, List.set_append_right _ _ (by omega), show A.length + 1 + B.length - A.length = B.length + 1 by omega, List.set_cons_succ, List.set_append_right _ _ (Nat.le_refl _), Nat.sub_self, List.set_cons_zero]
theorem swK_list {P : List Mk} : ∀ (n : Nat) (D : Array Mk) (X M Y S : List Mk), D.toList = P ++ (X ++ (M ++ (Y ++ S))) → X.length = n → Y.length = n → (swK D P.length (P.length + n + M.length) n).toList = P ++ (Y ++ (M ++ (X ++ S)))
  | 0, D, X, M, Y, S, h, hX, hY => by
    have eX := List.eq_nil_of_length_eq_zero hX
    have eY := List.eq_nil_of_length_eq_zero hY
    subst eX eY
    exact h
  | n + 1, D, X, M, Y, S, h, hX, hY => by
    obtain ⟨X', x, rfl⟩ : ∃ X' x, X = X' ++ [x] := by
      have hne : X ≠ [] := by intro e; rw [e] at hX; simp at hX
      exact ⟨X.dropLast, X.getLast hne, (List.dropLast_concat_getLast hne).symm⟩
    obtain ⟨Y', y, rfl⟩ : ∃ Y' y, Y = Y' ++ [y] := by
      have hne : Y ≠ [] := by intro e; rw [e] at hY; simp at hY
      exact ⟨Y.dropLast, Y.getLast hne, (List.dropLast_concat_getLast hne).symm⟩
    have hX' : X'.length = n := by simpa using hX
    have hY' : Y'.length = n := by simpa using hY
    have ih := swK_list (P := P) n D X' ([x] ++ M) Y' ([y] ++ S) (by rw [h]; simp) hX' hY'
    have eb : P.length + n + ([x] ++ M).length = P.length + (n + 1) + M.length := by simp; omega
    rw [eb] at ih
    have ih2 : (swK D P.length (P.length + (n + 1) + M.length) n).toList = (P ++ Y') ++ x :: ((M ++ X') ++ y :: S) := by rw [ih]; simp
    have e := swp_at ih2
    rw [show (P ++ Y').length = P.length + n by rw [List.length_append, hY'], show P.length + n + 1 + (M ++ X').length = P.length + (n + 1) + M.length + n by rw [List.length_append, hX']; omega] at e
    show (swp (swK D P.length (P.length + (n + 1) + M.length) n) (P.length + n) (P.length + (n + 1) + M.length + n)).toList = _
    rw [e]
    simp
theorem size_list {D : Array Mk} {L : List Mk} (h : D.toList = L) : D.size = L.length := by rw [← h, Array.length_toList]
theorem size_swK (d : Array Mk) (a b : Nat) : ∀ k, (swK d a b k).size = d.size
  | 0 => rfl
  | k + 1 => by rw [swK, swp_size, size_swK d a b k]

/-- a rotation permutes its part alone -/
theorem rot_perm {D D' : Array Mk} {P X Y S : List Mk} (h : D.toList = P ++ (X ++ (Y ++ S))) (h' : D'.toList = P ++ (Y ++ (X ++ S))) : PermIn P.length (P.length + X.length + Y.length) D D' := by
  refine ⟨by rw [size_list h, size_list h']; simp; omega, fun k hk => ?_, ?_⟩
  · by_cases hs : k < D.size
    · have e1 := list_bang D k hs
      refine bang_list D' k ?_
      rw [← e1, h, h']
      rcases hk with q | q
      · rw [List.getElem?_append_left q, List.getElem?_append_left q]
      · have e3 : ∀ Z W : List Mk, Z.length + W.length ≤ k - P.length → (Z ++ (W ++ S))[k - P.length]? = S[k - P.length - (Z.length + W.length)]? := by
          intro Z W hz
          rw [← List.append_assoc, List.getElem?_append_right (by rw [List.length_append]; exact hz), List.length_append]
        have e4 : ∀ Z : List Mk, (P ++ Z)[k]? = Z[k - P.length]? := fun Z => List.getElem?_append_right (by omega)
        rw [e4, e4, e3 Y X (by omega), e3 X Y (by omega), Nat.add_comm Y.length]
    · have hs' : ¬ k < D'.size := by
        have e1 := size_list h
        have e2 := size_list h'
        simp only [List.length_append] at e1 e2
        omega
      rw [getElem!_neg D k hs, getElem!_neg D' k hs']
  · rw [Array.toList_extract, Array.toList_extract, h, h']
    have e : ∀ Z : List Mk, Z.length = X.length + Y.length → List.extract (P ++ (Z ++ S)) P.length (P.length + X.length + Y.length) = Z := fun Z hZ => by
      rw [List.extract_eq_take_drop, List.drop_left, show P.length + X.length + Y.length - P.length = Z.length by omega, List.take_left]
    have a1 := e (Y ++ X) (by simp; omega)
    have a2 := e (X ++ Y) (by simp)
    rw [List.append_assoc] at a1 a2
    rw [a1, a2]
    exact List.perm_append_comm
/-- .. and keeps the order of equal ones, where what comes forward is less -/
theorem kf_rot (a i : Int) (P X Y S : List Mk) (hlt : ∀ x, x ∈ X → ∀ y, y ∈ Y → lt9 y x = true) : kf a i (P ++ (Y ++ (X ++ S))) = kf a i (P ++ (X ++ (Y ++ S))) := by
  rw [kf_append, kf_append, kf_append, kf_append, kf_append, kf_append]
  congr 1
  rw [← List.append_assoc, ← List.append_assoc]
  congr 1
  by_cases q : kf a i Y = []
  · rw [q]; simp
  · obtain ⟨y, hy⟩ : ∃ y, y ∈ kf a i Y := by
      cases e : kf a i Y with
      | nil => exact absurd e q
      | cons y t => exact ⟨y, List.mem_cons_self ..⟩
    have hy' := List.mem_filter.1 hy
    have : kf a i X = [] := by
      refine List.filter_eq_nil_iff.2 (fun x hx hk => ?_)
      have h1 := (lt9_iff y x).1 (hlt x hx y hy'.1)
      have h2 := hy'.2
      simp only [Bool.and_eq_true, beq_iff_eq] at h2 hk
      omega
    rw [this]; simp
theorem rot_same {D D' : Array Mk} {P X Y S : List Mk} (h : D.toList = P ++ (X ++ (Y ++ S))) (h' : D'.toList = P ++ (Y ++ (X ++ S))) (hlt : ∀ x, x ∈ X → ∀ y, y ∈ Y → lt9 y x = true) : Same9 D D' :=
  ⟨by rw [size_list h, size_list h']; simp; omega, fun a i => by rw [h, h']; exact kf_rot a i P X Y S hlt⟩
/-- an array cut in three places -/
theorem cut3 (D : Array Mk) {a m b : Nat} (h1 : a ≤ m) (h2 : m ≤ b) (h3 : b ≤ D.size) : ∃ P X Y S, D.toList = P ++ (X ++ (Y ++ S)) ∧ P.length = a ∧ X.length = m - a ∧ Y.length = b - m ∧ (∀ x, x ∈ X → ∃ k, a ≤ k ∧ k < m ∧ x = D[k]!) ∧ (∀ y, y ∈ Y → ∃ k, m ≤ k ∧ k < b ∧ y = D[k]!) := by
  have hl : D.toList.length = D.size := Array.length_toList
  refine ⟨D.toList.take a, (D.toList.drop a).take (m - a), (D.toList.drop m).take (b - m), D.toList.drop b, ?_, by rw [List.length_take]; omega, by rw [List.length_take, List.length_drop]; omega, by rw [List.length_take, List.length_drop]; omega, ?_, ?_⟩
  · have e1 : (D.toList.drop m).take (b - m) ++ D.toList.drop b = D.toList.drop m := by
      conv => rhs; rw [← List.take_append_drop (b - m) (D.toList.drop m)]
      rw [List.drop_drop]; congr 2; omega
    have e2 : (D.toList.drop a).take (m - a) ++ D.toList.drop m = D.toList.drop a := by
      conv => rhs; rw [← List.take_append_drop (m - a) (D.toList.drop a)]
      rw [List.drop_drop]; congr 2; omega
    rw [e1, e2, List.take_append_drop]
  · intro x hx
    obtain ⟨k, hk, e⟩ := List.mem_iff_getElem.1 hx
    rw [List.length_take, List.length_drop] at hk
    refine ⟨a + k, by omega, by omega, ?_⟩
    rw [← e]
    refine (bang_list D _ ?_).symm
    rw [List.getElem_take, List.getElem_drop]
    exact List.getElem?_eq_getElem _
  · intro x hx
    obtain ⟨k, hk, e⟩ := List.mem_iff_getElem.1 hx
    rw [List.length_take, List.length_drop] at hk
    refine ⟨m + k, by omega, by omega, ?_⟩
    rw [← e]
    refine (bang_list D _ ?_).symm
    rw [List.getElem_take, List.getElem_drop]
    exact List.getElem?_eq_getElem _

end Go.Proofs.Ytibmnkdeepmabaa
