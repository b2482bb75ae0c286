/- Plain: what lies outside a delta's extent. No program. No condition. -/
import Derived.Test.YtpbnciioeiohlaaBoth6
namespace Go.Proofs.Ytpbnciioeiohlaa

/-- a kept byte is the same byte -/
theorem kept_byte {s : List UInt8} {l : List Pc} (h : fitE s l = 0) {i j : Int} (k : KT false l i j) :
    ∃ (a b : Nat) (ha : a < s.length) (hb : b < (applyS s l).length), i = a ∧ j = b ∧ (applyS s l)[b] = s[a] := by
  obtain ⟨h1, h2, h3⟩ := fit_ok h
  obtain ⟨e1, e2⟩ := apply_eq h
  obtain ⟨b1, b2, b3, b4⟩ := KT.bd h2 k
  simp only [ioL, Bool.false_eq_true, if_false] at b2 b4
  obtain ⟨h0, n, rfl, hn⟩ := (KT.atoms h2).1 k
  obtain ⟨a, rfl⟩ := Int.eq_ofNat_of_zero_le h0
  have ha : a < s.length := by omega
  have hb : n < (applyS s l).length := by omega
  refine ⟨a, n, ha, hb, rfl, rfl, ?_⟩
  have : (applyS s l)[n]? = some s[a] := by
    rw [e1, List.getElem?_map, hn]
    have hneg : ¬ (a : Int) < 0 := by omega
    simp [valA, ha, hneg]
  rw [List.getElem?_eq_getElem hb] at this
  injection this
/-- the parts of a normal form that is not idle -/
theorem ends_of {n : List Pc} (hv : Val n) (hi : ¬ idle n) : ∃ m : List Pc, Val m ∧ 0 ≤ headN n ∧ 0 ≤ lastN n ∧ inL n = headN n + inL m + lastN n ∧ outL n = headN n + outL m + lastN n ∧
    atoms 0 n = rng 0 (headN n).toNat ++ atoms (headN n) m ++ rng (headN n + inL m) (lastN n).toNat := by
  have key1 : ∀ (p : Pc) (a : Int), p.valid = true → (p.k = 1 → atoms a [p] = rng a p.n.toNat ∧ inL [p] = p.n ∧ outL [p] = p.n) := fun p a v x => by
    rcases Pc.valid_cases v with ⟨x', y, z⟩ | ⟨x', y, z⟩ | ⟨x', y, z⟩
    · refine ⟨?_, by simp [inL], by simp [outL, Pc.out, x]⟩
      simp only [atoms, x, if_true, z, lets_nil, List.nil_append, List.append_nil]
    · omega
    · omega
  cases n with
  | nil => exact absurd (.inl rfl) hi
  | cons p r =>
    obtain ⟨v1, v2⟩ := Val.cons.1 hv
    have hp : headN (p :: r) = if p.k = 1 then p.n else 0 := rfl
    have hnn := Val.n v1
    rcases List.eq_nil_or_concat r with rfl | ⟨r', q, rfl⟩
    · have hk : ¬ p.k = 1 := fun hk => hi (.inr ⟨p, rfl, hk⟩)
      have hl : lastN [p] = 0 := by simp [lastN, hk]
      rw [hp, if_neg hk, hl]
      exact ⟨[p], hv, by omega, by omega, by omega, by omega, by simp [rng_zero]⟩
    · rw [List.concat_eq_append] at *
      obtain ⟨v3, v4⟩ := Val.append.1 v2
      have v4' := Val.one.1 v4
      have hqn := Val.n v4'
      have hl : lastN (p :: (r' ++ [q])) = if q.k = 1 then q.n else 0 := by
        rw [← List.cons_append, lastN, List.getLast?_append]; simp
      have e : p :: (r' ++ [q]) = [p] ++ (r' ++ [q]) := rfl
      have hin : inL (p :: (r' ++ [q])) = inL [p] + (inL r' + inL [q]) := by rw [e, inL_append, inL_append]
      have hout : outL (p :: (r' ++ [q])) = outL [p] + (outL r' + outL [q]) := by rw [e, outL_append, outL_append]
      have hat : atoms 0 (p :: (r' ++ [q])) = atoms 0 [p] ++ (atoms (inL [p]) r' ++ atoms (inL [p] + inL r') [q]) := by
        rw [e, atoms_append, atoms_append, Int.zero_add]
      rw [hp, hl, hin, hout, hat]
      by_cases c1 : p.k = 1 <;> by_cases c2 : q.k = 1
      · obtain ⟨a1, a2, a3⟩ := key1 p 0 v1 c1
        obtain ⟨a4, a5, a6⟩ := key1 q (inL [p] + inL r') v4' c2
        rw [if_pos c1, if_pos c2, a1, a4, a2, a3, a5, a6]
        exact ⟨r', v3, hnn, hqn, by omega, by omega, by simp [List.append_assoc]⟩
      · obtain ⟨a1, a2, a3⟩ := key1 p 0 v1 c1
        rw [if_pos c1, if_neg c2, a1, a2, a3]
        refine ⟨r' ++ [q], v2, hnn, by omega, by rw [inL_append]; omega, by rw [outL_append]; omega, ?_⟩
        rw [atoms_append]; simp [rng_zero]
      · obtain ⟨a4, a5, a6⟩ := key1 q (inL [p] + inL r') v4' c2
        rw [if_neg c1, if_pos c2, a4, a5, a6]
        refine ⟨[p] ++ r', Val.append.2 ⟨Val.one.2 v1, v3⟩, by omega, hqn, by rw [inL_append]; omega, by rw [outL_append]; omega, ?_⟩
        rw [atoms_append, inL_append]; simp [rng_zero, List.append_assoc]
      · rw [if_neg c1, if_neg c2]
        refine ⟨[p] ++ (r' ++ [q]), hv, by omega, by omega, by rw [inL_append, inL_append]; omega, by rw [outL_append, outL_append]; omega, ?_⟩
        rw [atoms_append, atoms_append, inL_append]; simp [rng_zero]
theorem rng_at {a : Int} {n k : Nat} (h : k < n) : (rng a n)[k]? = some (a + k) := by
  unfold rng
  rw [List.getElem?_map, List.getElem?_range h]
  rfl
/-- the extent, and what is kept outside it -/
theorem outside {s : List UInt8} {l : List Pc} (h : fitE s l = 0) : ∃ p q r : Nat, ∃ e : Nat,
    extV l = exV ⟨p, q, p, e⟩ 0 ∧ p ≤ q ∧ p ≤ e ∧ q + r = s.length ∧ e + r = (applyS s l).length ∧
    (∀ i : Int, 0 ≤ i → i < p → KT false l i i) ∧ (∀ i : Int, q ≤ i → i < s.length → KT false l i (i - q + e)) ∧
    s.take p = (applyS s l).take p ∧ s.drop q = (applyS s l).drop e := by
  obtain ⟨h1, h2, h3⟩ := fit_ok h
  obtain ⟨e1, e2⟩ := apply_eq h
  obtain ⟨f1, f2, f3⟩ := formS_ok h2
  have f4 := outL_formS h2
  have key : ∃ p q r e : Nat, extV l = exV ⟨p, q, p, e⟩ 0 ∧ p ≤ q ∧ p ≤ e ∧ q + r = s.length ∧ e + r = (applyS s l).length ∧
      (∀ i : Int, 0 ≤ i → i < p → KT false l i i) ∧ (∀ i : Int, q ≤ i → i < s.length → KT false l i (i - q + e)) := by
    by_cases hi : idle (formS l)
    · have hat : atoms 0 l = rng 0 s.length ∧ outL l = s.length := by
        rw [← f2 0, ← f4]
        rcases hi with hi | ⟨p, hi, hk⟩
        · rw [hi] at f3 ⊢
          have e0 : s.length = 0 := by simp only [inL] at f3; omega
          rw [e0]; exact ⟨rfl, rfl⟩
        · rw [hi] at f1 f3 ⊢
          have v := Val.one.1 f1
          have := Val.n v
          rcases Pc.valid_cases v with ⟨x', y, z⟩ | ⟨x', y, z⟩ | ⟨x', y, z⟩
          · have e0 : p.n.toNat = s.length := by simp only [inL] at f3; omega
            have e9 : p.n = s.length := by omega
            simp [atoms, outL, Pc.out, hk, z, lets_nil, e9]
          · omega
          · omega
      refine ⟨s.length, s.length, 0, s.length, ?_, Nat.le_refl _, Nat.le_refl _, by omega, by omega, ?_, fun i a b => by omega⟩
      · rw [extV_idle h1 hi, h3]
      · intro i i0 i1
        obtain ⟨k, rfl⟩ := Int.eq_ofNat_of_zero_le i0
        rw [KT.atoms h2]
        refine ⟨by omega, k, rfl, ?_⟩
        rw [hat.1, rng_at (by omega)]
        simp
    · obtain ⟨m, m1, m2, m3, m4, m5, m6⟩ := ends_of f1 hi
      rw [f3, h3] at m4
      rw [f4, ← e2] at m5
      rw [f2 0] at m6
      have n1 := Val.inL m1
      have n2 := Val.outL m1
      have n3 := Val.atoms_len m1 (headN (formS l))
      have hx := extV_ok h1 hi
      rw [extOf, h3, ← e2] at hx
      generalize headN (formS l) = p' at *
      generalize lastN (formS l) = r' at *
      obtain ⟨p, rfl⟩ := Int.eq_ofNat_of_zero_le m2
      obtain ⟨r, rfl⟩ := Int.eq_ofNat_of_zero_le m3
      generalize (applyS s l).length = T at *
      have hq : ((s.length - r : Nat) : Int) = (s.length : Int) - r := by omega
      have he : ((T - r : Nat) : Int) = (T : Int) - r := by omega
      refine ⟨p, s.length - r, r, T - r, by rw [hx, hq, he], by omega, by omega, by omega, by omega, ?_, ?_⟩
      · intro i i0 i1
        obtain ⟨k, rfl⟩ := Int.eq_ofNat_of_zero_le i0
        rw [KT.atoms h2]
        refine ⟨by omega, k, rfl, ?_⟩
        rw [m6, List.append_assoc, List.getElem?_append_left (by rw [rng_len]; omega), rng_at (by omega)]
        simp
      · intro i i0 i1
        rw [KT.atoms h2]
        refine ⟨by omega, (i - s.length + T).toNat, by omega, ?_⟩
        rw [m6, List.getElem?_append_right (by rw [List.length_append, rng_len]; omega), List.length_append, rng_len, rng_at (by omega)]
        congr 1
        omega
  obtain ⟨p, q, r, e, k1, k2, k3, k4, k5, k6, k7⟩ := key
  refine ⟨p, q, r, e, k1, k2, k3, k4, k5, k6, k7, ?_, ?_⟩
  · apply List.ext_getElem
    · simp; omega
    · intro i a b
      rw [List.length_take] at a
      obtain ⟨x, y, hx, hy, g1, g2, g3⟩ := kept_byte h (k6 i (by omega) (by omega))
      obtain rfl : x = i := by omega
      obtain rfl : y = x := by omega
      rw [List.getElem_take, List.getElem_take, g3]
  · apply List.ext_getElem
    · simp; omega
    · intro i a b
      rw [List.length_drop] at a
      obtain ⟨x, y, hx, hy, g1, g2, g3⟩ := kept_byte h (k7 (q + i : Nat) (by omega) (by omega))
      obtain rfl : x = q + i := by omega
      obtain rfl : y = e + i := by omega
      rw [List.getElem_drop, List.getElem_drop, g3]
/-- positions that move with their byte -/
theorem pos_before {l : List Pc} (h : Val l) {x y : Int} (hk : KT false l x y) (hk' : x = 0 ∧ y = 0 ∨ KT false l (x - 1) (y - 1)) :
    leftP x 0 (runsT false l) = y ∧ rightP x (outL l) (runsT false l) = y := by
  have L := leftL h false x
  have R := rightL h false x
  have LB := left_right h false x
  simp only [ioL, Bool.false_eq_true, if_false] at R LB
  have b := KT.bd h hk
  have h1 : y ≤ leftP x 0 (runsT false l) := by
    rcases hk' with ⟨rfl, rfl⟩ | hk'
    · exact ((L _).1 (Int.le_refl _)).1
    · have := ((L _).1 (Int.le_refl _)).2 _ _ hk' (by omega)
      omega
  have h2 : rightP x (outL l) (runsT false l) ≤ y := ((R _).1 (Int.le_refl _)).2 _ _ hk (Int.le_refl _)
  omega
theorem pos_end {l : List Pc} (h : Val l) {x : Int} (hk' : KT false l (x - 1) (outL l - 1)) :
    leftP x 0 (runsT false l) = outL l ∧ rightP x (outL l) (runsT false l) = outL l := by
  have L := leftL h false x
  have LB := left_right h false x
  have RB := right_bd h false x
  simp only [ioL, Bool.false_eq_true, if_false] at RB LB
  have h1 : outL l ≤ leftP x 0 (runsT false l) := by
    have := ((L _).1 (Int.le_refl _)).2 _ _ hk' (by omega)
    omega
  omega

end Go.Proofs.Ytpbnciioeiohlaa
