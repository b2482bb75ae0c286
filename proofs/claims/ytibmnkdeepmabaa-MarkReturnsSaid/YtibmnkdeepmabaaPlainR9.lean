/- Plain theory of marks that are moved there and back; which bytes a delta keeps, as a list of flags. -/
import Derived.Test.YtibmnkdeepmabaaPlainM9
import Derived.Test.YtibmnkdeepmabaaInvert
import Derived.Test.YtibmnkdeepmabaaPlain
namespace Go.Proofs.Ytibmnkdeepmabaa
open Go.RowKit

/-- for each byte of the input whether it is kept -/
def kfl (l : List Pc) : List Bool := l.flatMap (fun p => List.replicate p.n.toNat (p.k == 1))
theorem kfl_cons (p : Pc) (l : List Pc) : kfl (p :: l) = List.replicate p.n.toNat (p.k == 1) ++ kfl l := rfl
theorem valid_n {p : Pc} (h : p.valid = true) : (p.k = 1 ∨ p.k = 2 ∨ p.k = 3) ∧ 0 ≤ p.n ∧ (p.k = 2 → p.n = 0) := by
  rcases Pc.valid_cases h with ⟨a, b, -⟩ | ⟨a, b, -⟩ | ⟨a, b, -⟩ <;> exact ⟨by omega, by omega, fun _ => by omega⟩
theorem kfl_len : ∀ (l : List Pc), Val l → ((kfl l).length : Int) = inL l
  | [], _ => rfl
  | p :: l, h => by
    obtain ⟨h1, h2⟩ := Val.cons.1 h
    have := kfl_len l h2
    have hn := (valid_n h1).2.1
    rw [kfl_cons, List.length_append, List.length_replicate, inL]
    omega
theorem kfl_kp : ∀ (l : List Pc) (a o : Int) (x : Nat), Val l → ((kfl l)[x]? = some true ↔ ∃ j, KP (runsS a o l) (a + x) j)
  | [], a, o, x, _ => by
    simp [kfl, runsS, KP]
  | p :: l, a, o, x, h => by
    obtain ⟨h1, h2⟩ := Val.cons.1 h
    obtain ⟨hk, hn, hk2⟩ := valid_n h1
    obtain ⟨N, hN⟩ := Int.eq_ofNat_of_zero_le hn
    have hN2 : p.n.toNat = N := by omega
    have lo : ∀ (l : List Pc) (a o i j : Int), Val l → KP (runsS a o l) i j → a ≤ i := by
      intro l a o i j hv ⟨r, hr, k1, k2, k3⟩
      have := runs_in l a o hv r hr
      omega
    rw [kfl_cons, hN2]
    by_cases hx : x < N
    · rw [List.getElem?_append_left (by simpa using hx), List.getElem?_replicate, if_pos hx]
      rcases hk with hk | hk | hk
      · rw [runsS, if_pos hk]
        constructor
        · intro _
          exact ⟨o + x, ⟨a, o, p.n⟩, List.mem_cons_self .., by simp; omega, by simp; omega, by simp; omega⟩
        · intro _; rw [hk]; rfl
      · have := hk2 hk; omega
      · rw [runsS, if_neg (by omega), if_pos hk, hk]
        constructor
        · intro e; cases e
        · rintro ⟨j, hj⟩
          have := lo _ _ _ _ _ h2 hj
          omega
    · obtain ⟨y, rfl⟩ : ∃ y, x = N + y := ⟨x - N, by omega⟩
      rw [List.getElem?_append_right (by simp), List.length_replicate, Nat.add_sub_cancel_left]
      rcases hk with hk | hk | hk
      · rw [runsS, if_pos hk, kfl_kp l (a + p.n) (o + p.n) y h2]
        rw [show a + p.n + (y : Int) = a + ((N + y : Nat) : Int) by omega]
        constructor
        · rintro ⟨j, hj⟩
          exact ⟨j, KP.cons.2 (.inr hj)⟩
        · rintro ⟨j, hj⟩
          rcases KP.cons.1 hj with ⟨-, k2, -⟩ | hj
          · simp only at k2; omega
          · exact ⟨j, hj⟩
      · have h0 := hk2 hk
        rw [runsS, if_neg (by omega), if_neg (by omega), kfl_kp l a (o + p.t.length) y h2]
        rw [show a + (y : Int) = a + ((N + y : Nat) : Int) by omega]
      · rw [runsS, if_neg (by omega), if_pos hk, kfl_kp l (a + p.n) o y h2]
        rw [show a + p.n + (y : Int) = a + ((N + y : Nat) : Int) by omega]

/-- the flag of a byte; behind the end: none -/
def kfB (l : List Pc) (x : Nat) : Bool := ((kfl l)[x]?).getD false
theorem kfB_kt {l : List Pc} (h : Val l) (x : Nat) : kfB l x = true ↔ ∃ j, KT false l x j := by
  have := kfl_kp l 0 0 x h
  rw [Int.zero_add] at this
  have e : KT false l = KP (runsS 0 0 l) := rfl
  rw [kfB, e, ← this]
  cases (kfl l)[x]? <;> simp
theorem kfB_snoc {l : List Pc} (h : Val l) (i : Nat) (hi : i < l.length) (x N : Nat) (hN : l[i].n = N) : kfB (l.take (i + 1)) x = if inL (l.take i) ≤ x ∧ (x : Int) < inL (l.take i) + N then l[i].k == 1 else kfB (l.take i) x := by
  have hv : Val (l.take i) := fun p hp => h p (List.mem_of_mem_take hp)
  have hl := kfl_len (l.take i) hv
  have e : kfl (l.take (i + 1)) = kfl (l.take i) ++ List.replicate N (l[i].k == 1) := by
    rw [List.take_succ_eq_append_getElem hi]
    unfold kfl
    rw [List.flatMap_append]
    congr 1
    simp [hN]
  rw [kfB, e]
  by_cases q : x < (kfl (l.take i)).length
  · rw [List.getElem?_append_left q, if_neg (by omega)]
    rfl
  · rw [List.getElem?_append_right (by omega), List.getElem?_replicate]
    by_cases q2 : (x : Int) < inL (l.take i) + N
    · rw [if_pos (by omega), if_pos (by omega)]; rfl
    · rw [if_neg (by omega), if_neg (by omega), kfB, List.getElem?_eq_none (by omega)]
theorem inL_take {l : List Pc} (h : Val l) (i : Nat) (hi : i < l.length) : inL (l.take (i + 1)) = inL (l.take i) + l[i].n ∧ inL (l.take i) + l[i].n ≤ inL l ∧ 0 ≤ inL (l.take i) := by
  have ha : ∀ a b : List Pc, inL (a ++ b) = inL a + inL b := by
    intro a b
    induction a with
    | nil => simp [inL]
    | cons p a ih => rw [List.cons_append, inL, inL, ih]; omega
  have e1 : inL (l.take (i + 1)) = inL (l.take i) + l[i].n := by
    rw [List.take_succ_eq_append_getElem hi, ha]
    simp [inL]
  have e2 := ha (l.take (i + 1)) (l.drop (i + 1))
  rw [List.take_append_drop] at e2
  have h3 := Val.inL (l := l.drop (i + 1)) (fun p hp => h p (List.mem_of_mem_drop hp))
  have h4 := Val.inL (l := l.take i) (fun p hp => h p (List.mem_of_mem_take hp))
  exact ⟨e1, by omega, h4⟩

/-- there and back under the inverse -/
theorem ret_facts {s : List UInt8} {d : List Pc} {l : List Mk} (hf : fitE s d = 0) (hc : chkM (inL d) l = 0) (hw : ∀ m, m ∈ l → m.wf) : errL (inverseS s d) = 0 ∧ chkM (inL (inverseS s d)) (l.map (shM d)) = 0 ∧ inL d = s.length ∧ Val d ∧
    ∀ m, m ∈ l → 0 ≤ m.a ∧ m.a ≤ s.length ∧ (m.g = 0 ∨ m.g = 1) ∧
      (m.g = 0 → posV (inverseS s d) (posV d m.a m.g) m.g ≤ m.a ∧ (m.a = 0 → posV (inverseS s d) (posV d m.a m.g) m.g = m.a) ∧ ∀ k : Nat, m.a = (k : Int) + 1 → (posV (inverseS s d) (posV d m.a m.g) m.g == m.a) = kfB d k) ∧
      (m.g = 1 → m.a ≤ posV (inverseS s d) (posV d m.a m.g) m.g ∧ (m.a = s.length → posV (inverseS s d) (posV d m.a m.g) m.g = m.a) ∧ ∀ k : Nat, m.a = (k : Int) → k < s.length → (posV (inverseS s d) (posV d m.a m.g) m.g == m.a) = kfB d k) := by
  have he := (pfit_of hf).1
  have hV := val_of he
  obtain ⟨hvi, hii, hio⟩ := inv_io hf
  have hie := (back hf).2.2.2.1
  have hs := sh_set he hc hw
  rw [← hii] at hs
  have hin : inL d = s.length := (fit_ok hf).2.2
  refine ⟨hie, hs, hin, hV, fun m hm => ?_⟩
  have h1 := ((chkM_zero _ _).1 hc).all m hm
  have h2 := (hw m hm).2.2.2.2
  have hm2 : shM d m ∈ l.map (shM d) := List.mem_map.2 ⟨m, hm, rfl⟩
  have e1 := pos_val he hc hm (hw m hm)
  have e2 : posV (inverseS s d) (posV d m.a m.g) m.g = if m.g = 0 then leftP (posV d m.a m.g) 0 (runsT false (inverseS s d)) else rightP (posV d m.a m.g) (outL (inverseS s d)) (runsT false (inverseS s d)) := pos_val hie hs hm2 (sh_wf he hc hw _ hm2)
  have cl := fun x => left_congr hvi hV false true (fun i j => KT.inv hf) x
  have cr := fun x => right_congr hvi hV false true (fun i j => KT.inv hf) hio x
  refine ⟨h1.2.2.1, by omega, by omega, fun q => ?_, fun q => ?_⟩
  · rw [e2, if_pos q, e1, if_pos q, cl]
    obtain ⟨b1, b2⟩ := back_left hV h1.2.2.1
    refine ⟨b1, fun h0 => b2.2 (.inl h0), fun k hk => ?_⟩
    rw [Bool.eq_iff_iff, beq_iff_eq, b2, kfB_kt hV, hk, show (k : Int) + 1 - 1 = k by omega]
    constructor
    · rintro (h | h)
      · omega
      · exact h
    · exact .inr
  · have cr2 : ∀ x, rightP x (outL (inverseS s d)) (runsT false (inverseS s d)) = rightP x (inL d) (runsT true d) := cr
    rw [e2, if_neg (by omega), e1, if_neg (by omega), cr2]
    obtain ⟨b1, b2⟩ := back_right hV h1.2.2.2
    refine ⟨b1, fun h0 => b2.2 (.inl (by omega)), fun k hk hk2 => ?_⟩
    rw [Bool.eq_iff_iff, beq_iff_eq, b2, kfB_kt hV, hk]
    constructor
    · rintro (h | h)
      · omega
      · exact h
    · exact .inr

end Go.Proofs.Ytibmnkdeepmabaa
