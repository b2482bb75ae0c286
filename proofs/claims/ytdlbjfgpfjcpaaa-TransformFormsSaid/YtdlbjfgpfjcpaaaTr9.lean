/- transform.Transform: the transformed delta, or the error. Condition: the pieces read as values of their types. -/
import Derived.Test.YtdlbjfgpfjcpaaaTr6
import Derived.Test.YtdlbjfgpfjcpaaaTr7
import Derived.Test.YtdlbjfgpfjcpaaaTr8
import Derived.Deep.LoopGhost
namespace Go.Proofs.Ytdlbjfgpfjcpaaa
open Go.RowKit

/-- a row of the call's own as a list in its block -/
theorem own_at {w : World} {B : Nat} {A : Option Addr} {c : Nat} {l : List Pc} (h : w.ownsRow B 31 3 (.slice A l.length c) l.length (pcE.flat l)) :
    ∃ d, At w d A c l ∧ (l ≠ [] → B ≤ d ∧ d < w.heap.size ∧ (Value.slice A l.length c).ownBlock = some d) := by
  rcases h.2 with ⟨e, e0⟩ | ⟨g, cap', cur, e, hb, hg, hnc, hcm, hcs, htake⟩
  · have e1 : l = [] := List.eq_nil_of_length_eq_zero e0
    subst e1
    injection e with e1 e2 e3
    subst e1 e3
    exact ⟨0, ⟨Nat.le_refl _, by simp [maxLen], fun hh => absurd rfl hh⟩, fun hh => absurd rfl hh⟩
  · injection e with e1 e2 e3
    subst e1 e3
    refine ⟨g, ⟨hnc, hcm, fun _ => ⟨0, rfl, cur, hg, fun i j x u hx hu => ?_⟩⟩, fun _ => ⟨hb, heap_lt hg, rfl⟩⟩
    have h5 := pcE.flat_at l _ _ _ _ hx hu
    rw [← htake] at h5
    have h6 := (List.getElem?_eq_some_iff.1 h5).1
    rw [List.length_take] at h6
    rw [List.getElem?_take_of_lt (by omega)] at h5
    rw [Nat.zero_add, ← Array.getElem?_toList]
    exact h5
/-- at the head of a round -/
structure TI (T : List Pc) (f : Bool) (n : Nat) (X Y O : List Pc) : Prop where
  e : T = O ++ trF n f X Y
  s : szL X + szL Y ≤ n
  x : SmP X
  y : SmP Y
  l : O.length + X.length + Y.length ≤ 8192
theorem ins_of {p : Pc} (h : p.valid = true) (h2 : p.k = 2) : ∃ t, p = ⟨2, 0, t⟩ ∧ t ≠ [] := by
  obtain ⟨k, n, t⟩ := p
  rcases Pc.valid_cases h with ⟨u, v, z⟩ | ⟨u, v, z⟩ | ⟨u, v, z⟩
  · dsimp only at u h2; omega
  · dsimp only at u h2; omega
  · dsimp only at u v; subst u v; exact ⟨t, rfl, z⟩
theorem not_ins {p : Pc} (h : p.valid = true) (h2 : p.k ≠ 2) : 1 ≤ p.n ∧ p.t = [] ∧ lg p = p.n ∧ (p.k = 1 ∨ p.k = 3) := by
  rcases Pc.valid_cases h with ⟨u, v, z⟩ | ⟨u, v, z⟩ | ⟨u, v, z⟩
  · exact ⟨v, z, by simp [lg, z], .inl u⟩
  · exact ⟨v, z, by simp [lg, z], .inr u⟩
  · exact absurd u h2
theorem TI.a {T : List Pc} {f : Bool} {n : Nat} {t : List UInt8} {x Y O : List Pc} (h : TI T f n (⟨2, 0, t⟩ :: x) Y O) (ht : t ≠ []) (hf : f = true ∨ kd Y ≠ 2) : ∃ m, n = m + 1 ∧ TI T f m x Y (O ++ [⟨1, t.length, []⟩]) := by
  obtain ⟨e, s, hx, hy, l⟩ := h
  have h1 : 1 ≤ t.length := List.length_pos_iff.2 ht
  simp only [szL, lg] at s
  obtain ⟨m, rfl⟩ : ∃ m, n = m + 1 := ⟨n - 1, by omega⟩
  refine ⟨m, rfl, ?_, by omega, (SmP.cons.1 hx).2, hy, by simp only [List.length_append, List.length_cons, List.length_nil] at l ⊢; omega⟩
  rw [e, List.append_assoc]
  congr 1
  cases Y with
  | nil => simp [trF]
  | cons q y =>
    have hq : f = true ∨ q.k ≠ 2 := hf
    rw [trF_cc, if_pos ⟨rfl, hq⟩]
    rfl
theorem TI.b {T : List Pc} {f : Bool} {n : Nat} {t : List UInt8} {X y O : List Pc} (h : TI T f n X (⟨2, 0, t⟩ :: y) O) (ht : t ≠ []) (hf : f = false ∨ kd X ≠ 2) : ∃ m, n = m + 1 ∧ TI T f m X y (O ++ [⟨2, 0, t⟩]) := by
  obtain ⟨e, s, hx, hy, l⟩ := h
  have h1 : 1 ≤ t.length := List.length_pos_iff.2 ht
  simp only [szL, lg] at s
  obtain ⟨m, rfl⟩ : ∃ m, n = m + 1 := ⟨n - 1, by omega⟩
  refine ⟨m, rfl, ?_, by omega, hx, (SmP.cons.1 hy).2, by simp only [List.length_append, List.length_cons, List.length_nil] at l ⊢; omega⟩
  rw [e, List.append_assoc]
  congr 1
  cases X with
  | nil => simp [trF]
  | cons p x =>
    have hp : f = false ∨ p.k ≠ 2 := hf
    rw [trF_cc, if_neg (fun hh => by
      rcases hp with h | h
      · rw [h] at hh
        rcases hh.2 with h' | h'
        · cases h'
        · exact h' rfl
      · exact h hh.1), if_pos rfl]
    rfl
theorem TI.done {T : List Pc} {f : Bool} {n : Nat} {X Y O : List Pc} (h : TI T f n X Y O) (hx : kd X ≠ 2) (hy : kd Y ≠ 2) (hn : X = [] ∨ Y = []) : T = O := by
  rw [h.e]
  have : trF n f X Y = [] := by
    cases n with
    | zero => rfl
    | succ n =>
      cases X with
      | nil =>
        cases Y with
        | nil => rfl
        | cons q y => have hq : q.k ≠ 2 := hy; rw [trF, if_neg hq]
      | cons p x =>
        cases Y with
        | nil => have hp : p.k ≠ 2 := hx; rw [trF, if_neg hp]
        | cons q y => simp at hn
  rw [this, List.append_nil]
theorem TI.c {T : List Pc} {f : Bool} {n : Nat} {p q : Pc} {x y O : List Pc} (h : TI T f n (p :: x) (q :: y) O) (hp : p.k ≠ 2) (hq : q.k ≠ 2) :
    ∃ m, n = m + 1 ∧ TI T f m (takL (min p.n q.n) p x) (takL (min p.n q.n) q y) (O ++ if p.k = 1 then [⟨q.k, min p.n q.n, []⟩] else []) := by
  obtain ⟨e, s, hx, hy, l⟩ := h
  obtain ⟨u1, u2⟩ := SmP.cons.1 hx
  obtain ⟨v1, v2⟩ := SmP.cons.1 hy
  obtain ⟨p1, pt, pl, -⟩ := not_ins u1.1 hp
  obtain ⟨q1, qt, ql, -⟩ := not_ins v1.1 hq
  have m1 : 1 ≤ min p.n q.n := by omega
  have a := tak_ok u1.1 m1 (by rw [pl]; omega) x u2.val
  have b := tak_ok v1.1 m1 (by rw [ql]; omega) y v2.val
  have a7 := a.2.2.2.2.2.2.1
  have b7 := b.2.2.2.2.2.2.1
  obtain ⟨m, rfl⟩ : ∃ m, n = m + 1 := ⟨n - 1, by simp only [szL] at s; omega⟩
  refine ⟨m, rfl, ?_, by omega, (tak_sm hx m1 (by rw [pl]; omega)).2, (tak_sm hy m1 (by rw [ql]; omega)).2, ?_⟩
  · rw [e, List.append_assoc, trF_cc, if_neg (fun hh => hp hh.1), if_neg hq]
  · have l1 := a.2.2.2.2.1
    have l2 := b.2.2.2.2.1
    have l3 := a.2.2.2.2.2.1
    have l4 := b.2.2.2.2.2.1
    have l5 : (if p.k = 1 then [(⟨q.k, min p.n q.n, []⟩ : Pc)] else []).length ≤ 1 := by split <;> simp
    simp only [List.length_append, List.length_cons] at l ⊢
    by_cases h : p.n ≤ q.n
    · have := l3 (by rw [pl]; omega); omega
    · have := l4 (by rw [ql]; omega); omega
/-- bytes, in all three cases -/
theorem bytes_any {w0 : World} {B1 b d1 d2 : Nat} {f : Bool} {O x y : List Pc} {A : Option Addr} {c : Nat} (p q : Pc) (w : World) (h : WK w0 B1 b d1 d2 f (p :: x) (q :: y) O A c w) (hp : p.k ≠ 2) (hq : q.k ≠ 2) (hpt : p.t = []) (hqt : q.t = []) (hp1 : 1 ≤ p.n) (hq1 : 1 ≤ q.n) (hp2 : p.n ≤ 1048576) (hq2 : q.n ≤ 1048576) (hl : O.length ≤ 100000) :
    Calls Try.prog 118 #[.pointer (some ⟨b, 0, none⟩)] w fun e w' => e = .returned fT ∧ ∃ A' c', WK w0 B1 b d1 d2 f (takL (min p.n q.n) p x) (takL (min p.n q.n) q y) (O ++ if p.k = 1 then [⟨q.k, min p.n q.n, []⟩] else []) A' c' w' := by
  have lp : lg p = p.n := by simp [lg, hpt]
  have lq : lg q = q.n := by simp [lg, hqt]
  rcases Int.lt_trichotomy p.n q.n with hh | hh | hh
  · have e : min p.n q.n = p.n := by omega
    rw [e, show takL p.n p x = x by rw [takL, if_neg (by omega)], show takL p.n q y = ⟨q.k, q.n - p.n, q.t⟩ :: y by rw [takL, if_pos (by omega)]; simp [splB, hq]]
    exact bytes_lt p q w h hp hq hpt hqt hp1 hq1 hp2 hq2 hl hh
  · have e : min p.n q.n = p.n := by omega
    rw [e, show takL p.n p x = x by rw [takL, if_neg (by omega)], show takL p.n q y = y by rw [takL, if_neg (by omega)]]
    exact bytes_eq p q w h hp hq hpt hqt hp1 hq1 hp2 hq2 hl hh
  · have e : min p.n q.n = q.n := by omega
    rw [e, show takL q.n q y = y by rw [takL, if_neg (by omega)], show takL q.n p x = ⟨p.k, p.n - q.n, p.t⟩ :: x by rw [takL, if_pos (by omega)]; simp [splB, hp]]
    exact bytes_gt p q w h hp hq hpt hqt hp1 hq1 hp2 hq2 hl hh

end Go.Proofs.Ytdlbjfgpfjcpaaa
