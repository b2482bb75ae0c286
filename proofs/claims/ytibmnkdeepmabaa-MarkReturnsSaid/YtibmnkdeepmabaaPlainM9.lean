/- Plain theory of moved marks: bounds, order, there and back, step by step. -/
import Derived.Test.YtibmnkdeepmabaaMark5
import Derived.Test.YtibmnkdeepmabaaPlainK
import Derived.Test.YtibmnkdeepmabaaPlainI
import Derived.Test.YtibmnkdeepmabaaPlainC3
namespace Go.Proofs.Ytibmnkdeepmabaa
open Go.RowKit

theorem val_of {d : List Pc} (h : errL d = 0) : Val d := (mod_of h).1
/-- where a mark of a set moves -/
theorem pos_val {d : List Pc} {l : List Mk} (he : errL d = 0) (hc : chkM (inL d) l = 0) {m : Mk} (hm : m ∈ l) (h : m.wf) : posV d m.a m.g = if m.g = 0 then leftP m.a 0 (runsT false d) else rightP m.a (outL d) (runsT false d) := by
  have := pos_ok he hc hm h
  rw [posE, if_pos he] at this
  rw [posV, if_pos he, movV, if_pos this]
theorem sh_of {d : List Pc} {l : List Mk} (h : shE l d = 0) : errL d = 0 ∧ chkM (inL d) l = 0 ∧ shR l d = l.map (shM d) := by
  have h1 : errL d = 0 := by
    unfold shE at h
    split at h
    · assumption
    · exact h
  have h2 : chkM (inL d) l = 0 := by rw [shE, if_pos h1] at h; exact h
  exact ⟨h1, h2, by rw [shR, if_pos h]⟩
theorem pos_bd {d : List Pc} {l : List Mk} (he : errL d = 0) (hc : chkM (inL d) l = 0) {m : Mk} (hm : m ∈ l) (h : m.wf) : 0 ≤ posV d m.a m.g ∧ posV d m.a m.g ≤ outL d := by
  rw [pos_val he hc hm h]
  split
  · exact left_bd (val_of he) false m.a
  · exact right_bd (val_of he) false m.a
theorem sh_set {d : List Pc} {l : List Mk} (he : errL d = 0) (hc : chkM (inL d) l = 0) (hw : ∀ m, m ∈ l → m.wf) : chkM (outL d) (l.map (shM d)) = 0 := by
  have hs := (chkM_zero _ _).1 hc
  refine (chkM_zero _ _).2 ⟨(mod_io he).2.2.1, by rw [List.length_map]; exact hs.len, ?_, ?_⟩
  · rw [List.pairwise_map]
    exact hs.pw
  · intro x hx
    obtain ⟨m, hm, rfl⟩ := List.mem_map.1 hx
    have h1 := hs.all m hm
    have h2 := pos_bd he hc hm (hw m hm)
    exact ⟨h1.1, h1.2.1, h2.1, h2.2⟩
theorem sh_wf {d : List Pc} {l : List Mk} (he : errL d = 0) (hc : chkM (inL d) l = 0) (hw : ∀ m, m ∈ l → m.wf) : ∀ m, m ∈ l.map (shM d) → m.wf := by
  intro x hx
  obtain ⟨m, hm, rfl⟩ := List.mem_map.1 hx
  have h1 := hw m hm
  have h2 := pos_bd he hc hm h1
  have h3 := (mod_io he).2.2.2
  unfold Mk.wf at h1 ⊢
  simp only [shM]
  omega
theorem sh_ord {d : List Pc} {l : List Mk} (he : errL d = 0) (hc : chkM (inL d) l = 0) (hw : ∀ m, m ∈ l → m.wf) {x y : Mk} (hx : x ∈ l) (hy : y ∈ l) (ha : x.a ≤ y.a) (hg : x.g ≤ y.g) : posV d x.a x.g ≤ posV d y.a y.g := by
  rw [pos_val he hc hx (hw x hx), pos_val he hc hy (hw y hy)]
  have w1 := (hw x hx).2.2.2.2
  have w2 := (hw y hy).2.2.2.2
  have hV := val_of he
  by_cases q1 : x.g = 0
  · rw [if_pos q1]
    by_cases q2 : y.g = 0
    · rw [if_pos q2]
      exact left_mono hV false ha
    · rw [if_neg q2]
      exact Int.le_trans (left_mono hV false ha) (left_right hV false y.a)
  · rw [if_neg q1, if_neg (by omega)]
    exact right_mono hV false ha

/-- there and back -/
theorem back_left {d : List Pc} (h : Val d) {x : Int} (h0 : 0 ≤ x) : leftP (leftP x 0 (runsT false d)) 0 (runsT true d) ≤ x ∧ (leftP (leftP x 0 (runsT false d)) 0 (runsT true d) = x ↔ x = 0 ∨ ∃ j, KT false d (x - 1) j) := by
  have key : ∀ j i, KT false d j i → x ≤ j → leftP x 0 (runsT false d) ≤ i := fun j i k hj => by
    rw [leftL h false]
    exact ⟨(KT.bd h k).2.2.1, fun i' j' k' hi' => (KT.mono h k' k).1 (by omega)⟩
  have le : leftP (leftP x 0 (runsT false d)) 0 (runsT true d) ≤ x := by
    rw [leftL h true]
    refine ⟨h0, fun i j k hi => ?_⟩
    have k2 := KT.turn.1 k
    by_cases q : x ≤ j
    · have := key j i k2 q; omega
    · omega
  refine ⟨le, ?_, ?_⟩
  · intro he
    by_cases q : x = 0
    · exact .inl q
    · right
      have hn : ¬ leftP (leftP x 0 (runsT false d)) 0 (runsT true d) ≤ x - 1 := by omega
      rw [leftL h true] at hn
      have : ∃ i j, KT true d i j ∧ i < leftP x 0 (runsT false d) ∧ x - 1 ≤ j := by
        apply Classical.byContradiction
        intro hno
        apply hn
        refine ⟨by omega, fun i j k hi => ?_⟩
        apply Classical.byContradiction
        intro hj
        exact hno ⟨i, j, k, hi, by omega⟩
      obtain ⟨i, j, k, hi, hj⟩ := this
      have k2 := KT.turn.1 k
      have : ¬ x ≤ j := fun q2 => by have := key j i k2 q2; omega
      obtain rfl : j = x - 1 := by omega
      exact ⟨i, k2⟩
  · rintro (q | ⟨j, k⟩)
    · have := (left_bd h true (leftP x 0 (runsT false d))).1
      omega
    · have h1 : j < leftP x 0 (runsT false d) := by
        have := (leftL h false x _).1 (Int.le_refl _)
        exact this.2 _ _ k (by omega)
      have h2 := ((leftL h true (leftP x 0 (runsT false d)) _).1 (Int.le_refl _)).2 j (x - 1) (KT.turn.2 k) h1
      omega
theorem back_right {d : List Pc} (h : Val d) {x : Int} (h1 : x ≤ inL d) : x ≤ rightP (rightP x (outL d) (runsT false d)) (inL d) (runsT true d) ∧ (rightP (rightP x (outL d) (runsT false d)) (inL d) (runsT true d) = x ↔ x = inL d ∨ ∃ j, KT false d x j) := by
  have key : ∀ j i, KT false d j i → j < x → i < rightP x (outL d) (runsT false d) := fun j i k hj => by
    have : i + 1 ≤ rightP x (ioL false d).2 (runsT false d) := by
      rw [rightL h false]
      refine ⟨by have := (KT.bd h k).2.2.2; omega, fun i' j' k' hi' => ?_⟩
      have := (KT.mono h k k').1 (by omega)
      omega
    exact this
  have le : x ≤ rightP (rightP x (outL d) (runsT false d)) (ioL true d).2 (runsT true d) := by
    rw [rightL h true]
    refine ⟨h1, fun i j k hi => ?_⟩
    have k2 := KT.turn.1 k
    by_cases q : j < x
    · have := key j i k2 q; omega
    · omega
  refine ⟨le, ?_, ?_⟩
  · intro he
    by_cases q : x = inL d
    · exact .inl q
    · right
      have hn : ¬ x + 1 ≤ rightP (rightP x (outL d) (runsT false d)) (ioL true d).2 (runsT true d) := by
        have : rightP (rightP x (outL d) (runsT false d)) (ioL true d).2 (runsT true d) = x := he
        omega
      rw [rightL h true] at hn
      have : ∃ i j, KT true d i j ∧ rightP x (outL d) (runsT false d) ≤ i ∧ j ≤ x := by
        apply Classical.byContradiction
        intro hno
        apply hn
        refine ⟨by show x + 1 ≤ inL d; omega, fun i j k hi => ?_⟩
        apply Classical.byContradiction
        intro hj
        exact hno ⟨i, j, k, hi, by omega⟩
      obtain ⟨i, j, k, hi, hj⟩ := this
      have k2 := KT.turn.1 k
      have : ¬ j < x := fun q2 => by have := key j i k2 q2; omega
      obtain rfl : j = x := by omega
      exact ⟨i, k2⟩
  · rintro (q | ⟨j, k⟩)
    · have := ((rightL h true (rightP x (outL d) (runsT false d)) _).1 (Int.le_refl _)).1
      have e : (ioL true d).2 = inL d := rfl
      rw [e] at this le
      omega
    · have h1 : rightP x (outL d) (runsT false d) ≤ j := ((rightL h false x _).1 (Int.le_refl _)).2 _ _ k (Int.le_refl _)
      have h2 := ((rightL h true (rightP x (outL d) (runsT false d)) _).1 (Int.le_refl _)).2 j x (KT.turn.2 k) h1
      have e : (ioL true d).2 = inL d := rfl
      rw [e] at h2 le
      omega

end Go.Proofs.Ytibmnkdeepmabaa
