/- Plain: what a composition is: its pieces, its atoms, its errors. No program. No condition. -/
import Derived.Test.YtibmnkdeepmabaaPlain
namespace Go.Proofs.Ytibmnkdeepmabaa

/-- the bytes that a piece covers, or inserts -/
def lg (p : Pc) : Int := p.n + p.t.length
def splA (p : Pc) (n : Int) : Pc := if p.k = 2 then ⟨p.k, p.n, p.t.take n.toNat⟩ else ⟨p.k, n, p.t⟩
def splB (p : Pc) (n : Int) : Pc := if p.k = 2 then ⟨p.k, p.n, p.t.drop n.toNat⟩ else ⟨p.k, p.n - n, p.t⟩
def takP (n : Int) (p : Pc) : Pc := if n < lg p then splA p n else p
def takL (n : Int) (p : Pc) (r : List Pc) : List Pc := if n < lg p then splB p n :: r else r
def cOut (p q : Pc) : List Pc := if q.k = 1 then [p] else if p.k = 1 then [q] else []
/-- the pieces of a composition, with enough fuel -/
def cmpF : Nat → List Pc → List Pc → List Pc
  | 0, _, _ => []
  | _ + 1, [], [] => []
  | f + 1, [], q :: y => if q.k = 2 then q :: cmpF f [] y else []
  | f + 1, p :: x, [] => if p.k = 3 then p :: cmpF f x [] else []
  | f + 1, p :: x, q :: y =>
    if p.k = 3 then p :: cmpF f x (q :: y)
    else if q.k = 2 then q :: cmpF f (p :: x) y
    else cOut (takP (min (lg p) (lg q)) p) (takP (min (lg p) (lg q)) q) ++ cmpF f (takL (min (lg p) (lg q)) p x) (takL (min (lg p) (lg q)) q y)
/-- how much there is to read -/
def szL : List Pc → Nat
  | [] => 0
  | p :: r => (lg p).toNat + szL r
/-- atoms behind atoms -/
def compA (A B : List Int) : List Int := B.map fun i => if i < 0 then i else A.getD i.toNat 0

theorem lg_pos {p : Pc} (h : p.valid = true) : 1 ≤ lg p := by
  unfold lg
  rcases Pc.valid_cases h with ⟨x, y, z⟩ | ⟨x, y, z⟩ | ⟨x, y, z⟩
  · omega
  · omega
  · have : p.t.length ≠ 0 := by simpa using z
    omega
theorem Pc.valid1 {p : Pc} (h : p.k = 1) (h1 : 1 ≤ p.n) (h2 : p.t = []) : p.valid = true := by simp [Pc.valid, h, h1, h2]
theorem Pc.valid3 {p : Pc} (h : p.k = 3) (h1 : 1 ≤ p.n) (h2 : p.t = []) : p.valid = true := by simp [Pc.valid, h, h1, h2]
theorem Pc.valid2 {p : Pc} (h : p.k = 2) (h1 : p.n = 0) (h2 : p.t ≠ []) : p.valid = true := by simp [Pc.valid, h, h1, h2]
/-- a part of a piece, and what is left -/
theorem tak_ok {p : Pc} (h : p.valid = true) {n : Int} (h1 : 1 ≤ n) (h2 : n ≤ lg p) (r : List Pc) (hr : Val r) :
    (takP n p).valid = true ∧ lg (takP n p) = n ∧ (takP n p).k = p.k ∧ Val (takL n p r) ∧ (takL n p r).length ≤ r.length + 1 ∧ (n = lg p → (takL n p r).length = r.length) ∧ szL (takL n p r) + n.toNat = szL (p :: r) ∧
      inL (takL n p r) + (takP n p).n = inL (p :: r) ∧ outL (takL n p r) + (takP n p).out = outL (p :: r) ∧ ∀ a, atoms a (takP n p :: takL n p r) = atoms a (p :: r) := by
  unfold takP takL
  by_cases hn : n < lg p
  · rw [if_pos hn, if_pos hn]
    unfold lg at hn h2
    rcases Pc.valid_cases h with ⟨x, y, z⟩ | ⟨x, y, z⟩ | ⟨x, y, z⟩
    · simp only [z, List.length_nil] at hn h2
      have e1 : splA p n = ⟨1, n, []⟩ := by simp [splA, x, z]
      have e2 : splB p n = ⟨1, p.n - n, []⟩ := by simp [splB, x, z]
      rw [e1, e2]
      refine ⟨Pc.valid1 rfl h1 rfl, by simp [lg], x.symm, Val.cons.2 ⟨Pc.valid1 rfl (by dsimp only; omega) rfl, hr⟩, by simp, fun hh => by unfold lg at hh; simp only [z, List.length_nil] at hh; omega, ?_, ?_, ?_, fun a => ?_⟩
      · simp only [szL, lg, z, List.length_nil]; omega
      · simp only [inL]; omega
      · simp only [outL, Pc.out, x]; simp; omega
      · simp only [atoms, x, z, lets_nil, List.nil_append, if_true]
        rw [← List.append_assoc, show p.n.toNat = n.toNat + (p.n - n).toNat by omega, rng_add, show a + (n.toNat : Int) = a + n by omega, show a + n + (p.n - n) = a + p.n by omega]
    · simp only [z, List.length_nil] at hn h2
      have e1 : splA p n = ⟨3, n, []⟩ := by simp [splA, x, z]
      have e2 : splB p n = ⟨3, p.n - n, []⟩ := by simp [splB, x, z]
      rw [e1, e2]
      refine ⟨Pc.valid3 rfl h1 rfl, by simp [lg], x.symm, Val.cons.2 ⟨Pc.valid3 rfl (by dsimp only; omega) rfl, hr⟩, by simp, fun hh => by unfold lg at hh; simp only [z, List.length_nil] at hh; omega, ?_, ?_, ?_, fun a => ?_⟩
      · simp only [szL, lg, z, List.length_nil]; omega
      · simp only [inL]; omega
      · simp only [outL, Pc.out, x]; simp
      · simp only [atoms, x, z, lets_nil, List.nil_append]
        simp only [show ¬ ((3 : Int) = 1) by omega, if_false, List.nil_append]
        rw [show a + n + (p.n - n) = a + p.n by omega]
    · simp only [y] at hn h2
      have e1 : splA p n = ⟨2, 0, p.t.take n.toNat⟩ := by simp [splA, x, y]
      have e2 : splB p n = ⟨2, 0, p.t.drop n.toNat⟩ := by simp [splB, x, y]
      have l1 : (p.t.take n.toNat).length = n.toNat := by rw [List.length_take]; omega
      have l2 : (p.t.drop n.toNat).length = p.t.length - n.toNat := by rw [List.length_drop]
      rw [e1, e2]
      refine ⟨Pc.valid2 rfl rfl (fun hh => by dsimp only at hh; rw [hh] at l1; simp at l1; omega), by simp only [lg]; omega, x.symm, Val.cons.2 ⟨Pc.valid2 rfl rfl (fun hh => by dsimp only at hh; rw [hh] at l2; simp at l2; omega), hr⟩, by simp, fun hh => by unfold lg at hh; omega, ?_, ?_, ?_, fun a => ?_⟩
      · simp only [szL, lg, l2]; omega
      · simp only [inL]; omega
      · simp only [outL, Pc.out, x]; simp; omega
      · simp only [atoms, x, y, show ¬ ((2 : Int) = 1) by omega, if_false, List.nil_append, Int.add_zero]
        rw [← List.append_assoc, ← lets_append, List.take_append_drop]
  · rw [if_neg hn, if_neg hn]
    refine ⟨h, by omega, rfl, hr, by omega, fun _ => rfl, ?_, ?_, ?_, fun a => rfl⟩
    · simp only [szL]; omega
    · simp only [inL]; omega
    · simp only [outL]; omega
theorem compA_append (A B C : List Int) : compA A (B ++ C) = compA A B ++ compA A C := by simp [compA]
theorem compA_lets (A : List Int) (t : List UInt8) : compA A (lets t) = lets t := by
  unfold compA lets
  rw [List.map_map]
  refine List.map_congr_left fun b _ => ?_
  simp only [Function.comp_apply]
  rw [if_pos (by omega)]
theorem compA_rng (A : List Int) (c n : Nat) (h : c + n ≤ A.length) : compA A (rng c n) = (A.drop c).take n := by
  unfold compA rng
  rw [List.map_map]
  apply List.ext_getElem
  · simp; omega
  · intro i h1 h2
    simp only [List.length_map, List.length_range] at h1
    simp only [List.getElem_map, List.getElem_range, Function.comp_apply, List.getElem_take, List.getElem_drop]
    rw [if_neg (by omega), show ((c : Int) + (i : Int)).toNat = c + i by omega]
    simp [List.getD_eq_getElem?_getD, show c + i < A.length by omega]
theorem Val.szL {l : List Pc} (h : Val l) : l ≠ [] → 1 ≤ Ytibmnkdeepmabaa.szL l := by
  intro hl
  cases l with
  | nil => exact absurd rfl hl
  | cons p r =>
    have := lg_pos (Val.cons.1 h).1
    simp only [Ytibmnkdeepmabaa.szL]; omega
/-- what a composition's pieces mean -/
theorem cmp_ok : ∀ (f : Nat) (x y : List Pc), Val x → Val y → outL x = inL y → szL x + szL y ≤ f →
    Val (cmpF f x y) ∧ inL (cmpF f x y) = inL x ∧ (cmpF f x y).length ≤ x.length + y.length ∧
      ∀ (A : List Int) (c : Nat) (a : Int), atoms a x = A.drop c → c ≤ A.length → atoms a (cmpF f x y) = compA A (atoms c y) := by
  intro f
  induction f with
  | zero =>
    intro x y hx hy ho hf
    have ex : x = [] := Classical.byContradiction fun hh => by have := Val.szL hx hh; omega
    have ey : y = [] := Classical.byContradiction fun hh => by have := Val.szL hy hh; omega
    subst ex ey
    exact ⟨Val.nil, rfl, by simp [cmpF], fun A c a h1 h2 => rfl⟩
  | succ f ih =>
    intro x y hx hy ho hf
    cases x with
    | nil =>
      cases y with
      | nil => exact ⟨Val.nil, rfl, by simp [cmpF], fun A c a h1 h2 => rfl⟩
      | cons q y =>
        obtain ⟨v1, v2⟩ := Val.cons.1 hy
        have hg := lg_pos v1
        have hi := Val.inL v2
        simp only [outL, inL] at ho
        have hk : q.k = 2 := by rcases Pc.valid_cases v1 with ⟨x', y', z'⟩ | ⟨x', y', z'⟩ | ⟨x', y', z'⟩ <;> omega
        have hn : q.n = 0 := by rcases Pc.valid_cases v1 with ⟨x', y', z'⟩ | ⟨x', y', z'⟩ | ⟨x', y', z'⟩ <;> omega
        simp only [szL] at hf
        obtain ⟨i1, i2, i3, i4⟩ := ih [] y hx v2 (by simp only [outL]; omega) (by simp only [szL]; omega)
        rw [cmpF, if_pos hk]
        refine ⟨Val.cons.2 ⟨v1, i1⟩, by simp only [inL] at i2 ⊢; omega, by simp only [List.length_cons, List.length_nil] at i3 ⊢; omega, fun A c a h1 h2 => ?_⟩
        simp only [atoms, hk, show ¬ ((2 : Int) = 1) by omega, if_false, List.nil_append, hn, Int.add_zero]
        rw [compA_append, compA_lets, i4 A c a h1 h2]
    | cons p x =>
      obtain ⟨u1, u2⟩ := Val.cons.1 hx
      have hgp := lg_pos u1
      by_cases hp : p.k = 3
      · have hpt : p.t = [] := by rcases Pc.valid_cases u1 with ⟨x', y', z'⟩ | ⟨x', y', z'⟩ | ⟨x', y', z'⟩ <;> first | exact z' | omega
        have ho' : outL x = inL y := by simp only [outL, Pc.out, hp] at ho; simp at ho; exact ho
        obtain ⟨i1, i2, i3, i4⟩ := ih x y u2 hy ho' (by simp only [szL] at hf; omega)
        have e : cmpF (f + 1) (p :: x) y = p :: cmpF f x y := by cases y <;> simp [cmpF, hp]
        rw [e]
        refine ⟨Val.cons.2 ⟨u1, i1⟩, by simp only [inL]; omega, by simp only [List.length_cons] at i3 ⊢; omega, fun A c a h1 h2 => ?_⟩
        simp only [atoms, hp, hpt, lets_nil, List.nil_append, show ¬ ((3 : Int) = 1) by omega, if_false] at h1 ⊢
        exact i4 A c _ h1 h2
      · cases y with
        | nil =>
          have := Val.outL u2
          have : 1 ≤ p.out := by
            unfold lg at hgp
            rcases Pc.valid_cases u1 with ⟨x', y', z'⟩ | ⟨x', y', z'⟩ | ⟨x', y', z'⟩
            · simp [Pc.out, x']; omega
            · omega
            · simp only [Pc.out, x']; simp; omega
          simp only [outL, inL] at ho
          omega
        | cons q y =>
          obtain ⟨v1, v2⟩ := Val.cons.1 hy
          have hgq := lg_pos v1
          by_cases hq : q.k = 2
          · have hn : q.n = 0 := by rcases Pc.valid_cases v1 with ⟨x', y', z'⟩ | ⟨x', y', z'⟩ | ⟨x', y', z'⟩ <;> omega
            obtain ⟨i1, i2, i3, i4⟩ := ih (p :: x) y hx v2 (by rw [ho]; simp only [inL]; omega) (by simp only [szL] at hf ⊢; omega)
            rw [cmpF, if_neg hp, if_pos hq]
            refine ⟨Val.cons.2 ⟨v1, i1⟩, by simp only [inL] at i2 ⊢; omega, by simp only [List.length_cons] at i3 ⊢; omega, fun A c a h1 h2 => ?_⟩
            rw [show atoms a (q :: cmpF f (p :: x) y) = lets q.t ++ atoms a (cmpF f (p :: x) y) by simp only [atoms, hq, show ¬ ((2 : Int) = 1) by omega, if_false, List.nil_append, hn, Int.add_zero]]
            rw [show atoms c (q :: y) = lets q.t ++ atoms c y by simp only [atoms, hq, show ¬ ((2 : Int) = 1) by omega, if_false, List.nil_append, hn, Int.add_zero]]
            rw [compA_append, compA_lets, i4 A c a h1 h2]
          · rw [cmpF, if_neg hp, if_neg hq]
            have hm1 : 1 ≤ min (lg p) (lg q) := by omega
            have hm2 : min (lg p) (lg q) ≤ lg p := by omega
            have hm3 : min (lg p) (lg q) ≤ lg q := by omega
            have hm4 : min (lg p) (lg q) = lg p ∨ min (lg p) (lg q) = lg q := by omega
            generalize min (lg p) (lg q) = n at *
            obtain ⟨a1, a2, a3, a4, a5, a6, a7, a8, a9, a10⟩ := tak_ok u1 hm1 hm2 x u2
            obtain ⟨b1, b2, b3, b4, b5, b6, b7, b8, b9, b10⟩ := tak_ok v1 hm1 hm3 y v2
            generalize takP n p = P at *
            generalize takP n q = Q at *
            generalize takL n p x = X at *
            generalize takL n q y = Y at *
            have hPout : P.out = n := by
              unfold lg at a2
              rcases Pc.valid_cases a1 with ⟨x', y', z'⟩ | ⟨x', y', z'⟩ | ⟨x', y', z'⟩
              · simp only [z', List.length_nil] at a2; simp [Pc.out, x']; omega
              · omega
              · simp [Pc.out, x']; omega
            have hQn : Q.n = n ∧ Q.t = [] := by
              unfold lg at b2
              rcases Pc.valid_cases b1 with ⟨x', y', z'⟩ | ⟨x', y', z'⟩ | ⟨x', y', z'⟩
              · rw [z'] at b2; exact ⟨by simpa using b2, z'⟩
              · rw [z'] at b2; exact ⟨by simpa using b2, z'⟩
              · omega
            obtain ⟨hQ1, hQ2⟩ := hQn
            obtain ⟨i1, i2, i3, i4⟩ := ih X Y a4 b4 (by omega) (by omega)
            have hlen : X.length + Y.length + 1 ≤ (p :: x).length + (q :: y).length := by
              simp only [List.length_cons]
              rcases hm4 with h | h
              · have := a6 h; omega
              · have := b6 h; omega
            have hPl : ∀ a, (atoms a [P]).length = n.toNat := fun a => by
              have := Val.atoms_len (Val.one.2 a1) a
              simp only [outL] at this
              omega
            have key : ∀ (A : List Int) (c : Nat) (a : Int), atoms a (p :: x) = A.drop c → c ≤ A.length → c + n.toNat ≤ A.length ∧ atoms a [P] = (A.drop c).take n.toNat ∧ atoms (a + P.n) X = A.drop (c + n.toNat) := fun A c a h1 h2 => by
              rw [← a10 a] at h1
              have h3 : atoms a (P :: X) = atoms a [P] ++ atoms (a + P.n) X := by
                rw [show P :: X = [P] ++ X from rfl, atoms_append]
                simp only [inL, Int.add_zero]
              rw [h3] at h1
              have h4 : (A.drop c).length = A.length - c := List.length_drop
              have h5 : (A.drop c).length = n.toNat + (atoms (a + P.n) X).length := by rw [← h1, List.length_append, hPl]
              refine ⟨by omega, ?_, ?_⟩
              · rw [← h1, List.take_append_of_le_length (by rw [hPl]; omega), List.take_of_length_le (by rw [hPl]; omega)]
              · rw [← List.drop_drop, ← h1, List.drop_append, hPl]
                simp [hPl]
            have hb : ∀ c : Nat, atoms c (q :: y) = (if Q.k = 1 then rng c n.toNat else []) ++ atoms ((c + n.toNat : Nat) : Int) Y := fun c => by
              rw [← b10 c]
              simp only [atoms, hQ2, lets_nil, List.nil_append, hQ1]
              rw [show ((c + n.toNat : Nat) : Int) = (c : Int) + n by omega]
            unfold cOut
            by_cases hQ : Q.k = 1
            · rw [if_pos hQ, List.singleton_append]
              refine ⟨Val.cons.2 ⟨a1, i1⟩, by simp only [inL] at i2 a8 ⊢; omega, by simp only [List.length_cons] at hlen ⊢; omega, fun A c a h1 h2 => ?_⟩
              obtain ⟨k1, k2, k3⟩ := key A c a h1 h2
              have h3 : atoms a (P :: cmpF f X Y) = atoms a [P] ++ atoms (a + P.n) (cmpF f X Y) := by
                rw [show P :: cmpF f X Y = [P] ++ cmpF f X Y from rfl, atoms_append]
                simp only [inL, Int.add_zero]
              rw [h3, hb c, if_pos hQ, compA_append, compA_rng A c n.toNat k1, ← k2, i4 A (c + n.toNat) (a + P.n) k3 k1]
            · rw [if_neg hQ]
              have hQ3 : Q.k = 3 := by rcases Pc.valid_cases b1 with ⟨x', y', z'⟩ | ⟨x', y', z'⟩ | ⟨x', y', z'⟩ <;> omega
              by_cases hP : P.k = 1
              · have hPn : P.n = n := by simp [Pc.out, hP] at hPout; exact hPout
                rw [if_pos hP, List.singleton_append]
                refine ⟨Val.cons.2 ⟨b1, i1⟩, by simp only [inL] at i2 a8 ⊢; omega, by simp only [List.length_cons] at hlen ⊢; omega, fun A c a h1 h2 => ?_⟩
                obtain ⟨k1, k2, k3⟩ := key A c a h1 h2
                rw [hb c, if_neg hQ, List.nil_append]
                simp only [atoms, hQ2, lets_nil, List.nil_append, if_neg hQ]
                rw [← i4 A (c + n.toNat) (a + P.n) k3 k1, hQ1, hPn]
              · have hPn : P.n = 0 := by rcases Pc.valid_cases a1 with ⟨x', y', z'⟩ | ⟨x', y', z'⟩ | ⟨x', y', z'⟩ <;> omega
                rw [if_neg hP, List.nil_append]
                refine ⟨i1, by simp only [inL] at i2 a8 ⊢; omega, by simp only [List.length_cons] at hlen ⊢; omega, fun A c a h1 h2 => ?_⟩
                obtain ⟨k1, k2, k3⟩ := key A c a h1 h2
                rw [hb c, if_neg hQ, List.nil_append, ← i4 A (c + n.toNat) (a + P.n) k3 k1, hPn, Int.add_zero]
def cmpS (a b : List Pc) : List Pc := cmpF (szL a + szL b) a b
theorem compA_len (A B : List Int) : (compA A B).length = B.length := by simp [compA]
theorem cmpS_ok {a b : List Pc} (ha : Val a) (hb : Val b) (h : outL a = inL b) :
    Val (cmpS a b) ∧ inL (cmpS a b) = inL a ∧ outL (cmpS a b) = outL b ∧ (cmpS a b).length ≤ a.length + b.length ∧ atoms 0 (cmpS a b) = compA (atoms 0 a) (atoms 0 b) := by
  obtain ⟨i1, i2, i3, i4⟩ := cmp_ok (szL a + szL b) a b ha hb h (Nat.le_refl _)
  have e := i4 (atoms 0 a) 0 0 (by rw [List.drop_zero]) (Nat.zero_le _)
  refine ⟨i1, i2, ?_, i3, e⟩
  unfold cmpS
  rw [← Val.atoms_len i1 0, ← Val.atoms_len hb 0, e, compA_len]
  rfl
/-- the composition by its bytes -/
theorem cmpS_form {a b : List Pc} (ha : Val a) (hb : Val b) (h : outL a = inL b) : formS (cmpS a b) = ofS (inL a) (compA (atoms 0 a) (atoms 0 b)) := by
  obtain ⟨h1, h2, h3, h4, h5⟩ := cmpS_ok ha hb h
  rw [formS_ofS h1, h2, h5]
/-- the error, and the pieces, of a composition -/
def cmpE (a b : List Pc) : Int := if errL a = 0 then (if errL b = 0 then (if outL a = inL b then (if (formS (cmpS a b)).length ≤ 4096 then 0 else 5) else 21) else errL b) else errL a
def cmpR (a b : List Pc) : List Pc := if cmpE a b = 0 then formS (cmpS a b) else []
theorem cmpE_ok {a b : List Pc} (h : cmpE a b = 0) : errL a = 0 ∧ errL b = 0 ∧ outL a = inL b ∧ (formS (cmpS a b)).length ≤ 4096 := by
  unfold cmpE at h
  split at h
  · split at h
    · split at h
      · split at h
        · exact ⟨‹_›, ‹_›, ‹_›, ‹_›⟩
        · cases h
      · cases h
    · rename_i h2; exact absurd h h2
  · rename_i h2; exact absurd h h2
theorem cmp_err {a b : List Pc} (ha : errL a = 0) (hb : errL b = 0) (h : outL a = inL b) : errL (formS (cmpS a b)) = 0 ↔ (formS (cmpS a b)).length ≤ 4096 := by
  obtain ⟨a1, a2, a3, a4⟩ := (errL_iff a).1 ha
  obtain ⟨b1, b2, b3, b4⟩ := (errL_iff b).1 hb
  obtain ⟨h1, h2, h3, h4, h5⟩ := cmpS_ok a2 b2 h
  obtain ⟨f1, f2, f3⟩ := formS_ok h1
  rw [errL_iff, f3, outL_formS h1, h2, h3]
  exact ⟨fun h => h.1, fun h => ⟨h, f1, a3, b4⟩⟩
theorem singles (l : List Pc) : (l.map fun p => [p]).flatten = l := by
  induction l with
  | nil => rfl
  | cons p l ih => simp [ih]

end Go.Proofs.Ytibmnkdeepmabaa
