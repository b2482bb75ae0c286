/- Plain: what deltas mean: the atoms of a delta; the normal form is determined by them; inverses. No program. No condition. -/
import Derived.Test.YtibmnkdeepmabaaInvert
namespace Go.Proofs.Ytibmnkdeepmabaa

/-- all pieces are valid -/
def Val (l : List Pc) : Prop := ∀ p ∈ l, p.valid = true
def inL : List Pc → Int
  | [] => 0
  | p :: r => p.n + inL r
def outL : List Pc → Int
  | [] => 0
  | p :: r => p.out + outL r
/-- the bytes of a text as atoms -/
def lets (t : List UInt8) : List Int := t.map fun b => -1 - (b.toNat : Int)
/-- n offsets from a on -/
def rng (a : Int) (n : Nat) : List Int := (List.range n).map fun i : Nat => a + (i : Int)
/-- what the result consists of: the offsets that are kept, and -1 less the bytes that are inserted -/
def atoms : Int → List Pc → List Int
  | _, [] => []
  | a, p :: r => lets p.t ++ ((if p.k = 1 then rng a p.n.toNat else []) ++ atoms (a + p.n) r)

theorem Val.nil : Val [] := fun _ h => by cases h
theorem Val.cons {p : Pc} {l : List Pc} : Val (p :: l) ↔ p.valid = true ∧ Val l := by simp [Val]
theorem Val.append {l m : List Pc} : Val (l ++ m) ↔ Val l ∧ Val m := by
  simp only [Val, List.mem_append]
  exact ⟨fun h => ⟨fun p hp => h p (.inl hp), fun p hp => h p (.inr hp)⟩, fun h p hp => hp.elim (h.1 p) (h.2 p)⟩
theorem Val.one {p : Pc} : Val [p] ↔ p.valid = true := by simp [Val]
theorem lets_append (s t : List UInt8) : lets (s ++ t) = lets s ++ lets t := by simp [lets]
theorem lets_nil : lets [] = [] := rfl
theorem lets_len (t : List UInt8) : (lets t).length = t.length := by simp [lets]
theorem rng_zero (a : Int) : rng a 0 = [] := rfl
theorem rng_len (a : Int) (n : Nat) : (rng a n).length = n := by simp [rng]
theorem rng_add (a : Int) (m n : Nat) : rng a (m + n) = rng a m ++ rng (a + m) n := by
  unfold rng
  rw [List.range_add, List.map_append, List.map_map]
  congr 1
  refine List.map_congr_left fun i _ => ?_
  simp; omega
theorem rng_one (a : Int) : rng a 1 = [a] := by simp [rng]
theorem rng_succ (a : Int) (n : Nat) : rng a (n + 1) = a :: rng (a + 1) n := by
  rw [Nat.add_comm, rng_add, rng_one]; rfl
theorem mem_rng {a x : Int} {n : Nat} : x ∈ rng a n ↔ a ≤ x ∧ x < a + n := by
  unfold rng
  rw [List.mem_map]
  constructor
  · rintro ⟨i, hi, rfl⟩; have := List.mem_range.1 hi; omega
  · rintro ⟨h1, h2⟩; exact ⟨(x - a).toNat, by rw [List.mem_range]; omega, by omega⟩
theorem mem_lets {x : Int} {t : List UInt8} (h : x ∈ lets t) : x < 0 := by
  unfold lets at h
  obtain ⟨b, _, rfl⟩ := List.mem_map.1 h
  omega
theorem inL_append (l m : List Pc) : inL (l ++ m) = inL l + inL m := by
  induction l with
  | nil => simp [inL]
  | cons p l ih => simp only [List.cons_append, inL, ih]; omega
theorem outL_append (l m : List Pc) : outL (l ++ m) = outL l + outL m := by
  induction l with
  | nil => simp [outL]
  | cons p l ih => simp only [List.cons_append, outL, ih]; omega
theorem atoms_append (a : Int) (l m : List Pc) : atoms a (l ++ m) = atoms a l ++ atoms (a + inL l) m := by
  induction l generalizing a with
  | nil => simp [atoms, inL]
  | cons p l ih =>
    simp only [List.cons_append, atoms, inL, ih, List.append_assoc]
    rw [Int.add_assoc]
theorem Val.n {p : Pc} (h : p.valid = true) : 0 ≤ p.n := by
  rcases Pc.valid_cases h with ⟨_, y, _⟩ | ⟨_, y, _⟩ | ⟨_, y, _⟩ <;> omega
theorem Val.inL {l : List Pc} (h : Val l) : 0 ≤ inL l := by
  induction l with
  | nil => simp [Ytibmnkdeepmabaa.inL]
  | cons p l ih =>
    obtain ⟨h1, h2⟩ := Val.cons.1 h
    have := Val.n h1
    have := ih h2
    simp only [Ytibmnkdeepmabaa.inL]; omega
theorem Val.atoms_len {l : List Pc} (h : Val l) (a : Int) : ((atoms a l).length : Int) = outL l := by
  induction l generalizing a with
  | nil => simp [atoms, outL]
  | cons p l ih =>
    obtain ⟨h1, h2⟩ := Val.cons.1 h
    have := ih h2 (a + p.n)
    simp only [atoms, outL, List.length_append, lets_len]
    rcases Pc.valid_cases h1 with ⟨x, y, z⟩ | ⟨x, y, z⟩ | ⟨x, y, z⟩
    · simp [x, z, Pc.out, rng_len]; omega
    · simp [x, z, Pc.out]; omega
    · simp [x, Pc.out]; omega
theorem Val.outL {l : List Pc} (h : Val l) : 0 ≤ outL l := by
  rw [← Val.atoms_len h 0]; omega

/-- what is kept lies in the input, in rising order -/
inductive Rising : Int → Int → List Int → Prop
  | nil {a b : Int} : a ≤ b → Rising a b []
  | neg {a b x : Int} {l : List Int} : x < 0 → -256 ≤ x → Rising a b l → Rising a b (x :: l)
  | pos {a b x : Int} {l : List Int} : 0 ≤ x → a ≤ x → Rising (x + 1) b l → Rising a b (x :: l)
theorem Rising.le {a b : Int} {l : List Int} (h : Rising a b l) : a ≤ b := by
  induction h with
  | nil h => exact h
  | neg _ _ _ ih => exact ih
  | pos _ _ _ ih => omega
theorem Rising.mono {a a' b : Int} {l : List Int} (h : Rising a b l) (ha : a' ≤ a) : Rising a' b l := by
  induction h with
  | nil h => exact .nil (by omega)
  | neg h1 h2 _ ih => exact .neg h1 h2 (ih ha)
  | pos h1 h2 h3 ih => exact .pos h1 (by omega) h3
theorem Rising.lets {a b : Int} {l : List Int} (t : List UInt8) (h : Rising a b l) : Rising a b (lets t ++ l) := by
  induction t with
  | nil => exact h
  | cons c t ih =>
    have := c.toNat_lt
    exact .neg (x := -1 - (c.toNat : Int)) (by omega) (by omega) ih
theorem Rising.rng {a b : Int} {l : List Int} (n : Nat) (h0 : 0 ≤ a) (h : Rising (a + n) b l) : Rising a b (rng a n ++ l) := by
  induction n generalizing a with
  | zero => simpa [Ytibmnkdeepmabaa.rng] using h
  | succ n ih =>
    rw [rng_succ]
    exact .pos h0 (Int.le_refl _) (ih (by omega) (by have e : a + 1 + (n : Int) = a + ((n + 1 : Nat) : Int) := by omega
                                                     rw [e]; exact h))
theorem Val.rising {l : List Pc} (h : Val l) {a : Int} (ha : 0 ≤ a) : Rising a (a + Ytibmnkdeepmabaa.inL l) (atoms a l) := by
  induction l generalizing a with
  | nil => exact .nil (by simp [Ytibmnkdeepmabaa.inL])
  | cons p l ih =>
    obtain ⟨h1, h2⟩ := Val.cons.1 h
    have hn := Val.n h1
    have := ih h2 (a := a + p.n) (by omega)
    simp only [atoms, Ytibmnkdeepmabaa.inL]
    refine Rising.lets _ ?_
    rw [← Int.add_assoc]
    split
    · exact Rising.rng _ ha (by rw [Int.toNat_of_nonneg hn]; exact this)
    · exact this.mono (by omega)

/-- addRetain behind a list adds a run -/
theorem addRetain_atoms {o : List Pc} {p : Pc} (hp : p.k = 1) (ht : p.t = []) (hn : 0 ≤ p.n) (ho : ∀ q ∈ o, q.k = 1 → q.t = [] ∧ 0 ≤ q.n) (a : Int) :
    atoms a (addRetain o p) = atoms a (o ++ [p]) ∧ inL (addRetain o p) = inL (o ++ [p]) := by
  unfold addRetain
  cases h : o.getLast? with
  | none =>
    rw [List.getLast?_eq_none_iff] at h
    subst h
    exact ⟨rfl, rfl⟩
  | some q =>
    dsimp only
    split
    · rename_i hk
      obtain ⟨l', rfl⟩ := List.getLast?_eq_some_iff.1 h
      obtain ⟨q1, q2⟩ := ho q (by simp) hk
      rw [List.dropLast_concat]
      constructor
      · simp only [atoms_append, List.append_assoc, atoms, hk, if_true, hp, ht, q1, lets_nil, List.nil_append, List.append_nil, inL]
        rw [Int.toNat_add q2 hn, rng_add, Int.toNat_of_nonneg q2]
        simp [Int.add_assoc]
      · simp only [inL_append, inL]; omega
    · exact ⟨rfl, rfl⟩

theorem flushed_atoms (o : List Pc) (text : List UInt8) (gone : Int) (h : 0 ≤ gone) (a : Int) :
    atoms a (flushed o text gone) = atoms a o ++ lets text ∧ inL (flushed o text gone) = inL o + gone := by
  unfold flushed
  by_cases ht : text = [] <;> by_cases hg : 0 < gone
  · simp [ht, hg, atoms_append, inL_append, atoms, inL, lets_nil]
  · obtain rfl : gone = 0 := by omega
    simp [ht, lets_nil]
  · simp [ht, hg, atoms_append, inL_append, atoms, inL, lets_nil]
  · obtain rfl : gone = 0 := by omega
    simp [ht, atoms_append, inL_append, atoms, inL]

/-- the pieces written so far are valid, and what is pending is not negative -/
def FOk (s : FSt) : Prop := Val s.out ∧ 0 ≤ s.gone
theorem flushed_val {o : List Pc} {text : List UInt8} {gone : Int} (h : Val o) : Val (flushed o text gone) := by
  unfold flushed
  by_cases ht : text = [] <;> by_cases hg : 0 < gone <;> simp only [ht, hg, if_true, if_false]
  · exact Val.append.2 ⟨h, Val.one.2 (by simp [Pc.valid]; omega)⟩
  · exact h
  · exact Val.append.2 ⟨Val.append.2 ⟨h, Val.one.2 (by simp [Pc.valid, ht])⟩, Val.one.2 (by simp [Pc.valid]; omega)⟩
  · exact Val.append.2 ⟨h, Val.one.2 (by simp [Pc.valid, ht])⟩
theorem addRetain_val {o : List Pc} {p : Pc} (h : Val o) (hp : p.valid = true) : Val (addRetain o p) := by
  unfold addRetain
  split
  · rename_i q hq
    split
    · rename_i h1
      obtain ⟨l', rfl⟩ := List.getLast?_eq_some_iff.1 hq
      obtain ⟨v1, v2⟩ := Val.append.1 h
      rw [List.dropLast_concat]
      refine Val.append.2 ⟨v1, Val.one.2 ?_⟩
      rcases Pc.valid_cases (Val.one.1 v2) with ⟨x, y, z⟩ | ⟨x, y, z⟩ | ⟨x, y, z⟩
      · have := Val.n hp
        simp [Pc.valid, x, z]; omega
      · omega
      · omega
    · exact Val.append.2 ⟨h, Val.one.2 hp⟩
  · exact Val.one.2 hp
theorem formStep_ok {s : FSt} (h : FOk s) {p : Pc} (hp : p.valid = true) : FOk (formStep s p) ∧
    ∀ a, atoms a (formStep s p).out ++ lets (formStep s p).text = atoms a s.out ++ lets s.text ++ atoms (a + inL s.out + s.gone) [p] ∧ inL (formStep s p).out + (formStep s p).gone = inL s.out + s.gone + p.n := by
  obtain ⟨h1, h2⟩ := h
  unfold formStep
  rcases Pc.valid_cases hp with ⟨x, y, z⟩ | ⟨x, y, z⟩ | ⟨x, y, z⟩
  · rw [if_neg (by omega), if_neg (by omega)]
    refine ⟨⟨addRetain_val (flushed_val h1) hp, Int.le_refl _⟩, fun a => ?_⟩
    obtain ⟨e1, e2⟩ := addRetain_atoms (o := flushed s.out s.text s.gone) (p := p) x z (by omega) (fun q hq _ => by
      rcases Pc.valid_cases (flushed_val (text := s.text) (gone := s.gone) h1 q hq) with ⟨x, y, z⟩ | ⟨x, y, z⟩ | ⟨x, y, z⟩
      · exact ⟨z, by omega⟩
      · omega
      · omega) a
    obtain ⟨f1, f2⟩ := flushed_atoms s.out s.text s.gone h2 a
    dsimp only
    rw [e1, e2, atoms_append, inL_append, f1, f2]
    refine ⟨by simp [lets_nil, Int.add_assoc], by simp [inL]⟩
  · rw [if_neg (by omega), if_pos x]
    refine ⟨⟨h1, by dsimp only; omega⟩, fun a => ⟨by simp [atoms, x, z, lets_nil], by dsimp only; omega⟩⟩
  · rw [if_pos x]
    refine ⟨⟨h1, h2⟩, fun a => ⟨by simp [atoms, x, lets_append], by dsimp only; omega⟩⟩
theorem formFold_ok {l : List Pc} (hl : Val l) {s : FSt} (h : FOk s) : FOk (l.foldl formStep s) ∧
    ∀ a, atoms a (l.foldl formStep s).out ++ lets (l.foldl formStep s).text = atoms a s.out ++ lets s.text ++ atoms (a + inL s.out + s.gone) l ∧ inL (l.foldl formStep s).out + (l.foldl formStep s).gone = inL s.out + s.gone + inL l := by
  induction l generalizing s with
  | nil => exact ⟨h, fun a => ⟨by simp [atoms], by simp [inL]⟩⟩
  | cons p l ih =>
    obtain ⟨h1, h2⟩ := Val.cons.1 hl
    obtain ⟨g1, g2⟩ := formStep_ok h h1
    obtain ⟨i1, i2⟩ := ih h2 g1
    rw [List.foldl_cons]
    refine ⟨i1, fun a => ?_⟩
    obtain ⟨j1, j2⟩ := i2 a
    obtain ⟨k1, k2⟩ := g2 a
    rw [j1, j2, k1, show a + inL (formStep s p).out + (formStep s p).gone = a + inL s.out + s.gone + p.n by omega, k2]
    exact ⟨by simp [atoms], by simp only [inL]; omega⟩
theorem formSt_ok {l : List Pc} (hl : Val l) : FOk (formSt l) ∧ ∀ a, atoms a (formSt l).out ++ lets (formSt l).text = atoms a l ∧ inL (formSt l).out + (formSt l).gone = inL l := by
  obtain ⟨h1, h2⟩ := formFold_ok hl (s := ⟨[], [], 0⟩) ⟨Val.nil, Int.le_refl _⟩
  refine ⟨h1, fun a => ?_⟩
  obtain ⟨h3, h4⟩ := h2 a
  refine ⟨?_, ?_⟩
  · show _ = _
    rw [formSt, h3]
    simp [atoms, lets_nil, inL]
  · rw [formSt, h4]
    simp [inL]
/-- N1: the normal form is valid and has the same atoms and the same input length -/
theorem formS_ok {l : List Pc} (hl : Val l) : Val (formS l) ∧ (∀ a, atoms a (formS l) = atoms a l) ∧ inL (formS l) = inL l := by
  obtain ⟨⟨h1, h2⟩, h3⟩ := formSt_ok hl
  refine ⟨flushed_val h1, fun a => ?_, ?_⟩
  · rw [formS, (flushed_atoms _ _ _ h2 a).1, (h3 a).1]
  · rw [formS, (flushed_atoms _ _ _ h2 0).2, (h3 0).2]

/-- the pieces that the specification makes of atoms, before their normal form -/
def unitsS (n : Int) : Int → List Int → List Pc
  | a, [] => if a < n then [⟨3, n - a, []⟩] else []
  | a, x :: r => if x < 0 then ⟨2, 0, [UInt8.ofNat (-1 - x).toNat]⟩ :: unitsS n a r
    else (if a < x then [⟨3, x - a, []⟩] else []) ++ ⟨1, 1, []⟩ :: unitsS n (x + 1) r
def ofS (n : Int) (A : List Int) : List Pc := formS (unitsS n 0 A)

theorem ofNat_toNat (b : UInt8) : UInt8.ofNat (-1 - (-1 - (b.toNat : Int))).toNat = b := by
  rw [show (-1 - (-1 - (b.toNat : Int))).toNat = b.toNat by omega]
  simp
theorem unitsS_lets (n a : Int) (t : List UInt8) (r : List Int) : unitsS n a (lets t ++ r) = t.map (fun b => ⟨2, 0, [b]⟩) ++ unitsS n a r := by
  induction t with
  | nil => rfl
  | cons b t ih =>
    have e : lets (b :: t) = (-1 - (b.toNat : Int)) :: lets t := rfl
    rw [e, List.cons_append, unitsS, if_pos (by omega), ih, ofNat_toNat]
    rfl
theorem unitsS_rng (n : Int) (m : Nat) : ∀ (a : Int) (r : List Int), 0 ≤ a → unitsS n a (rng a m ++ r) = List.replicate m ⟨1, 1, []⟩ ++ unitsS n (a + m) r := by
  induction m with
  | zero => intro a r _; simp [rng_zero]
  | succ m ih =>
    intro a r h
    rw [rng_succ, List.cons_append, unitsS, if_neg (by omega), if_neg (by omega), ih (a + 1) r (by omega), List.replicate_succ, List.nil_append, List.cons_append, show a + 1 + (m : Int) = a + ((m + 1 : Nat) : Int) by omega]
theorem formFold_lets (t : List UInt8) : ∀ (o : List Pc) (text : List UInt8) (g : Int), (t.map (fun b => (⟨2, 0, [b]⟩ : Pc))).foldl formStep ⟨o, text, g⟩ = ⟨o, text ++ t, g⟩ := by
  induction t with
  | nil => intro o text g; simp
  | cons b t ih => intro o text g; rw [List.map_cons, List.foldl_cons]; simp [formStep, ih]
theorem addRetain_two (o : List Pc) (k m : Int) : addRetain (addRetain o ⟨1, k, []⟩) ⟨1, m, []⟩ = addRetain o ⟨1, k + m, []⟩ := by
  unfold addRetain
  cases h : o.getLast? with
  | none => simp
  | some q =>
    dsimp only
    by_cases hk : q.k = 1
    · simp [hk, Int.add_assoc]
    · simp [hk]
theorem formFold_ret (o : List Pc) (m : Nat) : ∀ k : Int, (List.replicate m (⟨1, 1, []⟩ : Pc)).foldl formStep ⟨addRetain o ⟨1, k, []⟩, [], 0⟩ = ⟨addRetain o ⟨1, k + m, []⟩, [], 0⟩ := by
  induction m with
  | zero => intro k; simp
  | succ m ih =>
    intro k
    rw [List.replicate_succ, List.foldl_cons]
    have e : formStep ⟨addRetain o ⟨1, k, []⟩, [], 0⟩ ⟨1, 1, []⟩ = ⟨addRetain o ⟨1, k + 1, []⟩, [], 0⟩ := by
      simp [formStep, flushed, addRetain_two]
    rw [e, ih, show k + 1 + (m : Int) = k + ((m + 1 : Nat) : Int) by omega]

def flush (s : FSt) : List Pc := flushed s.out s.text s.gone
theorem form_units {l : List Pc} (hl : Val l) : ∀ (o : List Pc) (text : List UInt8) (g a : Int), 0 ≤ g → g ≤ a →
    flush (l.foldl formStep ⟨o, text, g⟩) = flush ((unitsS (a + inL l) (a - g) (atoms a l)).foldl formStep ⟨o, text, 0⟩) := by
  induction l with
  | nil =>
    intro o text g a h1 h2
    simp only [atoms, unitsS, inL, Int.add_zero]
    split
    · simp [formStep]; congr 2; omega
    · obtain rfl : g = 0 := by omega
      rfl
  | cons p l ih =>
    intro o text g a h1 h2
    obtain ⟨v1, v2⟩ := Val.cons.1 hl
    obtain ⟨k, n, t⟩ := p
    rw [List.foldl_cons]
    simp only [atoms, inL]
    rcases Pc.valid_cases v1 with ⟨x, y, z⟩ | ⟨x, y, z⟩ | ⟨x, y, z⟩
    · dsimp only at x y z
      subst x z
      obtain ⟨m, rfl⟩ : ∃ m : Nat, n = (m + 1 : Nat) := ⟨(n - 1).toNat, by omega⟩
      have e : formStep ⟨o, text, g⟩ ⟨1, (m + 1 : Nat), []⟩ = ⟨addRetain (flushed o text g) ⟨1, (m + 1 : Nat), []⟩, [], 0⟩ := by simp [formStep]
      rw [e, lets_nil, List.nil_append, if_pos rfl, Int.toNat_natCast, rng_succ, List.cons_append, unitsS, if_neg (by omega), ih v2 _ _ 0 (a + (m + 1 : Nat)) (by omega) (by omega)]
      rw [unitsS_rng _ _ _ _ (by omega), List.foldl_append, List.foldl_cons, List.foldl_append]
      have e2 : formStep ((if a - g < a then [(⟨3, a - (a - g), []⟩ : Pc)] else []).foldl formStep ⟨o, text, 0⟩) ⟨1, 1, []⟩ = ⟨addRetain (flushed o text g) ⟨1, 1, []⟩, [], 0⟩ := by
        split
        · simp [formStep, show a - (a - g) = g by omega]
        · obtain rfl : g = 0 := by omega
          simp [formStep]
      rw [e2, formFold_ret, show (1 : Int) + (m : Nat) = ((m + 1 : Nat) : Int) by omega, show a + 1 + (m : Int) = a + ((m + 1 : Nat) : Int) - 0 by omega, Int.add_assoc]
    · dsimp only at x y z
      subst x z
      have e : formStep ⟨o, text, g⟩ ⟨3, n, []⟩ = ⟨o, text, g + n⟩ := by simp [formStep]
      rw [e, ih v2 _ _ _ (a + n) (by omega) (by omega), lets_nil, List.nil_append, if_neg (by omega), List.nil_append, show a + n - (g + n) = a - g by omega, Int.add_assoc]
    · dsimp only at x y z
      subst x y
      have e : formStep ⟨o, text, g⟩ ⟨2, 0, t⟩ = ⟨o, text ++ t, g⟩ := by simp [formStep]
      rw [e, ih v2 _ _ _ a h1 h2, if_neg (by omega), List.nil_append, unitsS_lets, List.foldl_append, formFold_lets, Int.add_zero, Int.zero_add]
/-- N2: the normal form is determined by the input length and the atoms -/
theorem formS_ofS {l : List Pc} (hl : Val l) : formS l = ofS (inL l) (atoms 0 l) := by
  have := form_units hl [] [] 0 0 (Int.le_refl _) (Int.le_refl _)
  simpa [flush, formS, formSt, ofS] using this
theorem formS_congr {l m : List Pc} (hl : Val l) (hm : Val m) (h1 : inL l = inL m) (h2 : atoms 0 l = atoms 0 m) : formS l = formS m := by
  rw [formS_ofS hl, formS_ofS hm, h1, h2]
theorem formS_idem {l : List Pc} (hl : Val l) : formS (formS l) = formS l := by
  obtain ⟨h1, h2, h3⟩ := formS_ok hl
  exact formS_congr h1 hl h3 (h2 0)
theorem formS_eq_iff {l m : List Pc} (hl : Val l) (hm : Val m) : formS l = formS m ↔ inL l = inL m ∧ atoms 0 l = atoms 0 m := by
  constructor
  · intro h
    obtain ⟨h1, h2, h3⟩ := formS_ok hl
    obtain ⟨k1, k2, k3⟩ := formS_ok hm
    rw [← h3, ← k3, ← h2, ← k2, h]
    exact ⟨rfl, rfl⟩
  · rintro ⟨h1, h2⟩
    exact formS_congr hl hm h1 h2
/-- the units of rising atoms have these atoms -/
theorem unitsS_ok {n : Int} : ∀ (A : List Int) (a : Int), 0 ≤ a → Rising a n A → Val (unitsS n a A) ∧ (∀ c, atoms c (unitsS n a A) = A.map (fun x => if x < 0 then x else x - a + c)) ∧ inL (unitsS n a A) = n - a
  | [], a, h0, h => by
    have hle := h.le
    simp only [unitsS]
    split
    · exact ⟨Val.one.2 (by simp [Pc.valid]; omega), fun c => by simp [atoms, lets_nil], by simp [inL]⟩
    · exact ⟨Val.nil, fun c => by simp [atoms], by simp [inL]; omega⟩
  | x :: A, a, h0, h => by
    simp only [unitsS]
    cases h with
    | neg h1 h2 h3 =>
      obtain ⟨i1, i2, i3⟩ := unitsS_ok A a h0 h3
      rw [if_pos h1]
      have hx : lets [UInt8.ofNat (-1 - x).toNat] = [x] := by
        simp only [lets, List.map_cons, List.map_nil]
        rw [UInt8.toNat_ofNat', Nat.mod_eq_of_lt (by omega)]
        congr 1; omega
      refine ⟨Val.cons.2 ⟨by simp [Pc.valid], i1⟩, fun c => ?_, by simp [inL, i3]⟩
      simp only [atoms, hx, i2, List.map_cons, if_pos h1]
      simp
    | pos h1 h2 h3 =>
      obtain ⟨i1, i2, i3⟩ := unitsS_ok A (x + 1) (by omega) h3
      rw [if_neg (by omega)]
      split
      · refine ⟨Val.append.2 ⟨Val.one.2 (by simp [Pc.valid]; omega), Val.cons.2 ⟨by simp [Pc.valid], i1⟩⟩, fun c => ?_, by simp [inL, i3]; omega⟩
        simp only [List.singleton_append, atoms, lets_nil, List.nil_append, List.map_cons, if_neg (show ¬ x < 0 by omega), i2]
        simp only [show ¬ ((3 : Int) = 1) by omega, if_false, if_true, List.nil_append, Int.toNat_one, rng_one, List.singleton_append]
        congr 1
        · omega
        · exact List.map_congr_left fun y _ => by split; rfl; omega
      · obtain rfl : x = a := by omega
        refine ⟨Val.cons.2 ⟨by simp [Pc.valid], i1⟩, fun c => ?_, by simp [inL, i3]; omega⟩
        simp only [List.nil_append, atoms, lets_nil, List.map_cons, if_neg (show ¬ x < 0 by omega), i2, if_true, Int.toNat_one, rng_one, List.singleton_append]
        congr 1
        · omega
        · exact List.map_congr_left fun y _ => by split; rfl; omega
theorem ofS_ok {n : Int} {A : List Int} (h : Rising 0 n A) : Val (ofS n A) ∧ atoms 0 (ofS n A) = A ∧ inL (ofS n A) = n := by
  obtain ⟨h1, h2, h3⟩ := unitsS_ok A 0 (Int.le_refl _) h
  obtain ⟨k1, k2, k3⟩ := formS_ok h1
  refine ⟨k1, ?_, ?_⟩
  · rw [ofS, k2, h2]
    conv => rhs; rw [← List.map_id A]
    exact List.map_congr_left fun y _ => by simp
  · rw [ofS, k3, h3]; omega

theorem Val.inn {p : Pc} (h : p.valid = true) : p.inn = p.n := by
  rcases Pc.valid_cases h with ⟨x, y, _⟩ | ⟨x, y, _⟩ | ⟨x, y, _⟩ <;> simp [Pc.inn, x, y]
theorem Val.out {p : Pc} (h : p.valid = true) : 0 ≤ p.out := by
  rcases Pc.valid_cases h with ⟨x, y, _⟩ | ⟨x, y, _⟩ | ⟨x, y, _⟩
  · simp [Pc.out, x] <;> omega
  · simp [Pc.out, x]
  · simp [Pc.out, x]
theorem lensFrom_iff (l : List Pc) : ∀ (a b : Int), a ≤ 1048576 → b ≤ 1048576 →
    ((lensFrom a b l).2.2 = 0 ↔ Val l ∧ a + inL l ≤ 1048576 ∧ b + outL l ≤ 1048576) ∧ ((lensFrom a b l).2.2 = 0 → lensFrom a b l = (a + inL l, b + outL l, 0)) := by
  induction l with
  | nil => intro a b ha hb; simp [lensFrom, inL, outL, Val.nil, ha, hb]
  | cons p l ih =>
    intro a b ha hb
    simp only [lensFrom, Val.cons, inL, outL]
    by_cases hv : p.valid = true
    · have h1 := Val.inn hv
      have h2 := Val.n hv
      have h3 := Val.out hv
      rw [if_neg (by simp [hv]), h1]
      by_cases hl : 1048576 - a < p.n ∨ 1048576 - b < p.out
      · rw [if_pos hl]
        constructor
        · constructor
          · intro h; cases h
          · rintro ⟨⟨-, h4⟩, h5, h6⟩
            have := Val.inL h4
            have := Val.outL h4
            omega
        · intro h; cases h
      · rw [if_neg hl]
        obtain ⟨i1, i2⟩ := ih (a + p.n) (b + p.out) (by omega) (by omega)
        constructor
        · rw [i1]
          constructor
          · rintro ⟨h4, h5, h6⟩; exact ⟨⟨hv, h4⟩, by omega, by omega⟩
          · rintro ⟨⟨-, h4⟩, h5, h6⟩; exact ⟨h4, by omega, by omega⟩
        · intro h; rw [i2 h, Int.add_assoc, Int.add_assoc]
    · rw [if_pos (by simpa using hv)]
      constructor
      · constructor
        · intro h; cases h
        · rintro ⟨⟨h, -⟩, -, -⟩; exact absurd h hv
      · intro h; cases h
theorem errL_iff (l : List Pc) : errL l = 0 ↔ l.length ≤ 4096 ∧ Val l ∧ inL l ≤ 1048576 ∧ outL l ≤ 1048576 := by
  unfold errL lens
  split
  · constructor
    · intro h; cases h
    · rintro ⟨h, -⟩; omega
  · rw [(lensFrom_iff l 0 0 (by omega) (by omega)).1, Int.zero_add, Int.zero_add]
    exact ⟨fun h => ⟨by omega, h⟩, fun h => h.2⟩
theorem lens_of_err {l : List Pc} (h : errL l = 0) : lens l = (inL l, outL l, 0) := by
  unfold errL lens at h
  unfold lens
  split at h
  · cases h
  · rename_i h0
    rw [if_neg h0, (lensFrom_iff l 0 0 (by omega) (by omega)).2 h, Int.zero_add, Int.zero_add]
theorem flushed_len (o o' : List Pc) (text : List UInt8) (g : Int) (h : o'.length ≤ o.length) : (flushed o' text g).length ≤ (flushed o text g).length := by
  unfold flushed
  by_cases ht : text = [] <;> by_cases hg : 0 < g <;> simp [ht, hg] <;> omega
theorem addRetain_len (o : List Pc) (p : Pc) : (addRetain o p).length ≤ o.length + 1 := by
  unfold addRetain
  split
  · rename_i q hq
    split
    · simp
    · simp
  · simp
theorem formStep_len (s : FSt) (p : Pc) (hn : 0 ≤ p.n) : (flush (formStep s p)).length ≤ (flush s).length + 1 := by
  unfold formStep
  split
  · unfold flush flushed
    by_cases ht : s.text = [] <;> by_cases hg : 0 < s.gone <;> by_cases hp : p.t = [] <;> simp [ht, hg, hp]
  · split
    · unfold flush flushed
      by_cases ht : s.text = [] <;> by_cases hg : 0 < s.gone
      · simp [ht, hg, show 0 < s.gone + p.n by omega]
      · by_cases hg' : 0 < s.gone + p.n <;> simp [ht, hg, hg']
      · simp [ht, hg, show 0 < s.gone + p.n by omega]
      · by_cases hg' : 0 < s.gone + p.n <;> simp [ht, hg, hg']
    · have := addRetain_len (flushed s.out s.text s.gone) p
      simpa [flush, flushed] using this
theorem formS_len {l : List Pc} (hl : Val l) : (formS l).length ≤ l.length := by
  have key : ∀ (l : List Pc) (s : FSt), Val l → (flush (l.foldl formStep s)).length ≤ (flush s).length + l.length := by
    intro l
    induction l with
    | nil => intro s _; simp
    | cons p l ih =>
      intro s h
      obtain ⟨h1, h2⟩ := Val.cons.1 h
      have := ih (formStep s p) h2
      have := formStep_len s p (Val.n h1)
      rw [List.foldl_cons, List.length_cons]
      omega
  have := key l ⟨[], [], 0⟩ hl
  rw [show flush (l.foldl formStep ⟨[], [], 0⟩) = formS l from rfl, show (flush ⟨[], [], 0⟩).length = 0 from rfl] at this
  omega
theorem outL_formS {l : List Pc} (hl : Val l) : outL (formS l) = outL l := by
  obtain ⟨h1, h2, _⟩ := formS_ok hl
  rw [← Val.atoms_len h1 0, h2, Val.atoms_len hl]
theorem lens_formS {l : List Pc} (h : errL l = 0) : lens (formS l) = lens l ∧ errL (formS l) = 0 := by
  obtain ⟨h1, h2, h3, h4⟩ := (errL_iff l).1 h
  obtain ⟨k1, k2, k3⟩ := formS_ok h2
  have h0 : errL (formS l) = 0 := (errL_iff _).2 ⟨Nat.le_trans (formS_len h2) h1, k1, by omega, by rw [outL_formS h2]; exact h4⟩
  refine ⟨?_, h0⟩
  rw [lens_of_err h0, lens_of_err h, k3, outL_formS h2]

/-- the byte of an atom -/
def valA (s : List UInt8) (x : Int) : UInt8 := if x < 0 then UInt8.ofNat (-1 - x).toNat else s.getD x.toNat 0
theorem map_lets (s t : List UInt8) : (lets t).map (valA s) = t := by
  unfold lets
  rw [List.map_map]
  conv => rhs; rw [← List.map_id t]
  refine List.map_congr_left fun b _ => ?_
  simp only [Function.comp, valA, id]
  rw [if_pos (by omega), ofNat_toNat]
theorem map_rng (s : List UInt8) (a : Int) (n : Nat) (h0 : 0 ≤ a) (h : a + n ≤ s.length) : (rng a n).map (valA s) = (s.drop a.toNat).take n := by
  induction n generalizing a with
  | zero => simp [rng_zero]
  | succ n ih =>
    rw [rng_succ, List.map_cons, ih (a + 1) (by omega) (by omega)]
    have hlt : a.toNat < s.length := by omega
    rw [List.drop_eq_getElem_cons hlt, List.take_succ_cons]
    congr 1
    · unfold valA
      rw [if_neg (by omega), List.getD_eq_getElem?_getD, List.getElem?_eq_getElem hlt]
      rfl
    · rw [show (a + 1).toNat = a.toNat + 1 by omega]
theorem partStep1 {st : PSt} {p : Pc} (h : p.k = 1) : partStep st p = ⟨st.s.drop p.n.toNat, st.out ++ st.s.take p.n.toNat, st.gone, st.put⟩ := by simp [partStep, h]
theorem partStep3 {st : PSt} {p : Pc} (h : p.k = 3) : partStep st p = ⟨st.s.drop p.n.toNat, st.out, st.gone ++ st.s.take p.n.toNat, st.put⟩ := by simp [partStep, h]
theorem partStep2 {st : PSt} {p : Pc} (h : p.k = 2) : partStep st p = ⟨st.s, st.out ++ p.t, st.gone, st.put ++ p.t⟩ := by simp [partStep, h]
theorem part_fold {l : List Pc} (hl : Val l) (s : List UInt8) : ∀ (a : Int) (o g u : List UInt8), 0 ≤ a → a + inL l ≤ s.length →
    (l.foldl partStep ⟨s.drop a.toNat, o, g, u⟩).out = o ++ (atoms a l).map (valA s) ∧ (l.foldl partStep ⟨s.drop a.toNat, o, g, u⟩).gone = g ++ insS (invGo (s.drop a.toNat) l) ∧ (l.foldl partStep ⟨s.drop a.toNat, o, g, u⟩).put = u ++ insS l := by
  induction l with
  | nil => intro a o g u _ _; simp [atoms, insS, invGo]
  | cons p l ih =>
    intro a o g u h0 h1
    obtain ⟨v1, v2⟩ := Val.cons.1 hl
    have hn := Val.n v1
    have hi := Val.inL v2
    simp only [inL] at h1
    have hd : (s.drop a.toNat).drop p.n.toNat = s.drop (a + p.n).toNat := by
      rw [List.drop_drop]; congr 1; omega
    rw [List.foldl_cons]
    simp only [atoms, List.map_append, map_lets, invGo, insS, List.flatMap_cons, hd]
    rcases Pc.valid_cases v1 with ⟨x, y, z⟩ | ⟨x, y, z⟩ | ⟨x, y, z⟩
    · rw [partStep1 x, if_pos x]
      dsimp only
      rw [hd]
      obtain ⟨i1, i2, i3⟩ := ih v2 (a + p.n) (o ++ (s.drop a.toNat).take p.n.toNat) g u (by omega) (by omega)
      rw [i1, i2, i3, map_rng s a _ h0 (by omega)]
      simp [z, invP, x, insS]
    · rw [partStep3 x, if_neg (by omega)]
      dsimp only
      rw [hd]
      obtain ⟨i1, i2, i3⟩ := ih v2 (a + p.n) o (g ++ (s.drop a.toNat).take p.n.toNat) u (by omega) (by omega)
      rw [i1, i2, i3]
      simp [z, invP, x, insS]
    · rw [partStep2 x, if_neg (by omega)]
      obtain ⟨i1, i2, i3⟩ := ih v2 a (o ++ p.t) g (u ++ p.t) (by omega) (by omega)
      dsimp only
      rw [y, Int.add_zero, i1, i2, i3]
      simp [invP, x, insS]
theorem part_out {s : List UInt8} {l : List Pc} (hl : Val l) (h : inL l ≤ s.length) : (partSt s l).out = (atoms 0 l).map (valA s) ∧ (partSt s l).gone = insS (invGo s l) := by
  have := part_fold hl s 0 [] [] [] (Int.le_refl _) (by omega)
  simpa [partSt] using ⟨this.1, this.2.1⟩

/-- the inverse, piece by piece -/
theorem inv_ok {l : List Pc} (hl : Val l) : ∀ s : List UInt8, inL l ≤ s.length → Val (invGo s l) ∧ inL (invGo s l) = outL l ∧ outL (invGo s l) = inL l := by
  induction l with
  | nil => intro s _; exact ⟨Val.nil, rfl, rfl⟩
  | cons p l ih =>
    intro s h
    obtain ⟨v1, v2⟩ := Val.cons.1 hl
    have hn := Val.n v1
    have hi := Val.inL v2
    simp only [inL] at h
    obtain ⟨i1, i2, i3⟩ := ih v2 (s.drop p.n.toNat) (by rw [List.length_drop]; omega)
    have hlen : (s.take p.n.toNat).length = p.n.toNat := by rw [List.length_take]; omega
    simp only [invGo, Val.cons, inL, outL, i2, i3]
    have hq : (invP (s.take p.n.toNat) p).valid = true ∧ (invP (s.take p.n.toNat) p).n = p.out ∧ (invP (s.take p.n.toNat) p).out = p.n := by
      unfold invP
      rcases Pc.valid_cases v1 with ⟨x, y, z⟩ | ⟨x, y, z⟩ | ⟨x, y, z⟩
      · rw [if_neg (by omega), if_neg (by omega)]
        exact ⟨v1, by simp [Pc.out, x], by simp [Pc.out, x]⟩
      · rw [if_neg (by omega), if_pos x]
        have hne : s.take p.n.toNat ≠ [] := fun e => by rw [e] at hlen; simp at hlen; omega
        refine ⟨by simp [Pc.valid, hne], by simp [Pc.out, x], ?_⟩
        simp [Pc.out, hlen]; omega
      · rw [if_pos x]
        have ht : 0 < p.t.length := List.length_pos_iff.2 z
        exact ⟨by simp [Pc.valid]; omega, by simp [Pc.out, x], by simp [Pc.out, y]⟩
    exact ⟨⟨hq.1, i1⟩, by rw [hq.2.1], by rw [hq.2.2]⟩
/-- what is behind what was written -/
theorem part_pre : ∀ (l : List Pc) (s o g u : List UInt8), (l.foldl partStep ⟨s, o, g, u⟩).out = o ++ (partSt s l).out := by
  intro l
  induction l with
  | nil => intro s o g u; simp [partSt]
  | cons p l ih =>
    intro s o g u
    rw [List.foldl_cons, partSt, List.foldl_cons]
    by_cases h1 : p.k = 1
    · rw [partStep1 h1, partStep1 h1, ih, ih _ ([] ++ _)]; simp
    · by_cases h3 : p.k = 3
      · rw [partStep3 h3, partStep3 h3, ih, ih _ []]; simp
      · have e : ∀ st : PSt, partStep st p = ⟨st.s, st.out ++ p.t, st.gone, st.put ++ p.t⟩ := fun st => by simp [partStep, h1, h3]
        rw [e, e, ih, ih _ ([] ++ _)]; simp
theorem part_cons1 {p : Pc} (h : p.k = 1) (s : List UInt8) (l : List Pc) : (partSt s (p :: l)).out = s.take p.n.toNat ++ (partSt (s.drop p.n.toNat) l).out := by
  rw [partSt, List.foldl_cons, partStep1 h, part_pre]; simp
theorem part_cons3 {p : Pc} (h : p.k = 3) (s : List UInt8) (l : List Pc) : (partSt s (p :: l)).out = (partSt (s.drop p.n.toNat) l).out := by
  rw [partSt, List.foldl_cons, partStep3 h, part_pre]; simp
theorem part_cons2 {p : Pc} (h : p.k = 2) (s : List UInt8) (l : List Pc) : (partSt s (p :: l)).out = p.t ++ (partSt s l).out := by
  rw [partSt, List.foldl_cons, partStep2 h, part_pre]; simp
theorem inv_back {l : List Pc} (hl : Val l) : ∀ s : List UInt8, inL l ≤ s.length →
    invGo (partSt s l).out (invGo s l) = l ∧ (inL l = s.length → (partSt (partSt s l).out (invGo s l)).out = s) := by
  induction l with
  | nil => intro s _; exact ⟨rfl, fun h => by simp [inL] at h; rw [List.length_eq_zero_iff.1 (by omega : s.length = 0)]; rfl⟩
  | cons p l ih =>
    intro s h
    obtain ⟨v1, v2⟩ := Val.cons.1 hl
    have hn := Val.n v1
    have hi := Val.inL v2
    simp only [inL] at h
    have hsd : inL l ≤ (s.drop p.n.toNat).length := by rw [List.length_drop]; omega
    obtain ⟨i1, i2⟩ := ih v2 (s.drop p.n.toNat) hsd
    have hlen : (s.take p.n.toNat).length = p.n.toNat := by rw [List.length_take]; omega
    simp only [inL, invGo]
    have hs : ∀ (x : List UInt8) (r : List UInt8) (k : Nat), x.length = k → (x ++ r).take k = x ∧ (x ++ r).drop k = r := fun x r k e => by subst e; simp
    rcases Pc.valid_cases v1 with ⟨x, y, z⟩ | ⟨x, y, z⟩ | ⟨x, y, z⟩
    · have eq : invP (s.take p.n.toNat) p = p := by simp [invP, x]
      rw [eq, part_cons1 x]
      obtain ⟨j1, j2⟩ := hs (s.take p.n.toNat) (partSt (s.drop p.n.toNat) l).out _ hlen
      rw [j1, j2]
      refine ⟨by rw [i1]; simp [invP, x], fun hl' => ?_⟩
      rw [part_cons1 x, j1, j2, i2 (by rw [List.length_drop]; omega)]
      simp
    · have eq : invP (s.take p.n.toNat) p = ⟨2, 0, s.take p.n.toNat⟩ := by simp [invP, x]
      rw [eq, part_cons3 x]
      refine ⟨?_, fun hl' => ?_⟩
      · simp only [Int.toNat_zero, List.drop_zero, i1]
        congr 1
        obtain ⟨k, n, t⟩ := p
        dsimp only at x y z hlen hn
        subst x z
        simp only [invP, if_true, hlen]
        rw [Int.toNat_of_nonneg hn]
      · rw [part_cons2 rfl, i2 (by rw [List.length_drop]; omega)]
        simp
    · have eq : invP (s.take p.n.toNat) p = ⟨3, p.t.length, []⟩ := by simp [invP, x]
      rw [eq, part_cons2 x]
      have hd0 : s.drop p.n.toNat = s := by rw [y]; simp
      rw [hd0] at i1 i2 ⊢
      obtain ⟨j1, j2⟩ := hs p.t (partSt s l).out p.t.length rfl
      dsimp only
      rw [Int.toNat_natCast, j1, j2]
      refine ⟨?_, fun hl' => ?_⟩
      · rw [i1]
        congr 1
        obtain ⟨k, n, t⟩ := p
        dsimp only at x y
        subst x y
        simp [invP]
      · rw [part_cons3 rfl]
        dsimp only
        rw [Int.toNat_natCast, j2, i2 (by omega)]

/-- the bytes from a to b -/
def cutS (s : List UInt8) (a b : Int) : List UInt8 := (s.drop a.toNat).take (b - a).toNat
theorem cutS_self (s : List UInt8) (a : Int) : cutS s a a = [] := by simp [cutS]
theorem cutS_append (s : List UInt8) (a b c : Int) (h0 : 0 ≤ a) (h1 : a ≤ b) (h2 : b ≤ c) : cutS s a b ++ cutS s b c = cutS s a c := by
  unfold cutS
  rw [show (c - a).toNat = (b - a).toNat + (c - b).toNat by omega, List.take_add, List.drop_drop]
  congr 3; omega
/-- the atoms of the inverse, by those of a delta -/
def invA (s : List UInt8) (n : Int) : Int → Int → List Int → List Int
  | a, _, [] => lets (cutS s a n)
  | a, j, x :: r => if x < 0 then invA s n a (j + 1) r else lets (cutS s a x) ++ j :: invA s n (x + 1) (j + 1) r
theorem invA_lets (s : List UInt8) (n : Int) (t : List UInt8) : ∀ (a j : Int) (r : List Int), invA s n a j (lets t ++ r) = invA s n a (j + t.length) r := by
  induction t with
  | nil => intro a j r; simp [lets_nil]
  | cons b t ih =>
    intro a j r
    have e : lets (b :: t) = (-1 - (b.toNat : Int)) :: lets t := rfl
    rw [e, List.cons_append, invA, if_pos (by omega), ih]
    congr 1; simp; omega
theorem invA_rng (s : List UInt8) (n : Int) (m : Nat) : ∀ (a j : Int) (r : List Int), 0 ≤ a → invA s n a j (rng a m ++ r) = rng j m ++ invA s n (a + m) (j + m) r := by
  induction m with
  | zero => intro a j r _; simp [rng_zero]
  | succ m ih =>
    intro a j r h
    rw [rng_succ, rng_succ, List.cons_append, invA, if_neg (by omega), cutS_self, lets_nil, List.nil_append, ih _ _ _ (by omega), List.cons_append]
    congr 3 <;> (push_cast; omega)
theorem atoms_inv {l : List Pc} (hl : Val l) (s : List UInt8) : ∀ (a g j : Int), 0 ≤ g → g ≤ a → a + inL l ≤ s.length →
    invA s (a + inL l) (a - g) j (atoms a l) = lets (cutS s (a - g) a) ++ atoms j (invGo (s.drop a.toNat) l) := by
  induction l with
  | nil => intro a g j _ _ _; simp [atoms, invA, invGo, inL]
  | cons p l ih =>
    intro a g j h0 h1 h2
    obtain ⟨v1, v2⟩ := Val.cons.1 hl
    have hn := Val.n v1
    have hi := Val.inL v2
    simp only [inL] at h2
    have hd : (s.drop a.toNat).drop p.n.toNat = s.drop (a + p.n).toNat := by
      rw [List.drop_drop]; congr 1; omega
    simp only [atoms, invGo, inL, hd, invA_lets]
    rcases Pc.valid_cases v1 with ⟨x, y, z⟩ | ⟨x, y, z⟩ | ⟨x, y, z⟩
    · have eq : invP ((s.drop a.toNat).take p.n.toNat) p = p := by simp [invP, x]
      rw [eq, if_pos x, if_pos x, z, lets_nil]
      obtain ⟨m, hm⟩ : ∃ m : Nat, p.n = (m + 1 : Nat) := ⟨(p.n - 1).toNat, by omega⟩
      rw [hm, Int.toNat_natCast, rng_succ, List.cons_append, invA, if_neg (by omega), invA_rng _ _ _ _ _ _ (by omega)]
      have := ih v2 (a + p.n) 0 (j + p.n) (by omega) (by omega) (by omega)
      rw [Int.sub_zero, cutS_self, lets_nil, List.nil_append, hm] at this
      rw [show a + 1 + (m : Int) = a + ((m + 1 : Nat) : Int) by omega, show j + (([] : List UInt8).length : Int) + 1 + (m : Int) = j + ((m + 1 : Nat) : Int) by simp; omega, show a + (((m + 1 : Nat) : Int) + inL l) = a + ((m + 1 : Nat) : Int) + inL l by omega, this]
      rw [rng_succ]
      simp
    · have eq : invP ((s.drop a.toNat).take p.n.toNat) p = ⟨2, 0, (s.drop a.toNat).take p.n.toNat⟩ := by simp [invP, x]
      rw [eq, if_neg (by omega), z]
      have := ih v2 (a + p.n) (g + p.n) j (by omega) (by omega) (by omega)
      simp only [List.length_nil, Int.natCast_zero, Int.add_zero, List.nil_append]
      rw [show a + p.n - (g + p.n) = a - g by omega, Int.add_assoc] at this
      rw [this, ← cutS_append s (a - g) a (a + p.n) (by omega) (by omega) (by omega), lets_append]
      simp [cutS, show a + p.n - a = p.n by omega]
    · have eq : invP ((s.drop a.toNat).take p.n.toNat) p = ⟨3, p.t.length, []⟩ := by simp [invP, x]
      rw [eq, if_neg (by omega), List.nil_append]
      have := ih v2 a g (j + p.t.length) h0 h1 (by omega)
      rw [y, Int.zero_add, Int.add_zero, this]
      simp [lets_nil]
theorem atoms_invGo {l : List Pc} (hl : Val l) {s : List UInt8} (h : inL l ≤ s.length) : atoms 0 (invGo s l) = invA s (inL l) 0 0 (atoms 0 l) := by
  have := atoms_inv hl s 0 0 0 (Int.le_refl _) (Int.le_refl _) (by omega)
  simpa [cutS_self, lets_nil] using this.symm
theorem insS_atoms (l : List Pc) (a : Int) (h : Val l) (ha : 0 ≤ a) : insS l = ((atoms a l).filter (fun x => decide (x < 0))).map (valA []) := by
  induction l generalizing a with
  | nil => rfl
  | cons p l ih =>
    obtain ⟨v1, v2⟩ := Val.cons.1 h
    have hn := Val.n v1
    have e1 : (lets p.t).filter (fun x => decide (x < 0)) = lets p.t := List.filter_eq_self.2 fun x hx => by have := mem_lets hx; simpa using this
    have e2 : (rng a p.n.toNat).filter (fun x => decide (x < 0)) = [] := List.filter_eq_nil_iff.2 fun x hx => by have := mem_rng.1 hx; simp; omega
    have e3 : (if p.k = 1 then rng a p.n.toNat else []).filter (fun x => decide (x < 0)) = [] := by split; exact e2; rfl
    simp only [insS, List.flatMap_cons, atoms, List.filter_append, List.map_append, e1, e3, map_lets, List.nil_append]
    rw [← ih (a + p.n) v2 (by omega)]
    rfl

theorem fit_ok {s : List UInt8} {l : List Pc} (h : fitE s l = 0) : errL l = 0 ∧ Val l ∧ inL l = s.length := by
  unfold fitE at h
  split at h
  · rename_i h0
    split at h
    · rename_i h1
      rw [lens_of_err h0] at h1
      exact ⟨h0, ((errL_iff l).1 h0).2.1, h1⟩
    · cases h
  · rename_i h0; exact absurd h h0
theorem fit_of {s : List UInt8} {l : List Pc} (h : errL l = 0) (h1 : inL l = s.length) : fitE s l = 0 := by
  unfold fitE
  rw [if_pos h, lens_of_err h, if_pos h1]
theorem fit_form {s : List UInt8} {l : List Pc} (h : fitE s l = 0) : fitE s (formS l) = 0 := by
  obtain ⟨h1, h2, h3⟩ := fit_ok h
  exact fit_of (lens_formS h1).2 (by rw [(formS_ok h2).2.2, h3])
theorem apply_eq {s : List UInt8} {l : List Pc} (h : fitE s l = 0) : applyS s l = (atoms 0 l).map (valA s) ∧ (applyS s l).length = outL l := by
  obtain ⟨h1, h2, h3⟩ := fit_ok h
  have e : applyS s l = (atoms 0 l).map (valA s) := by
    unfold applyS
    rw [if_pos h]
    exact (part_out h2 (by omega)).1
  refine ⟨e, ?_⟩
  rw [e, List.length_map, Val.atoms_len h2 0]
theorem apply_form {s : List UInt8} {l : List Pc} (h : fitE s l = 0) : applyS s (formS l) = applyS s l := by
  obtain ⟨h1, h2, h3⟩ := fit_ok h
  rw [(apply_eq (fit_form h)).1, (apply_eq h).1, (formS_ok h2).2.1]
theorem ins_form {l : List Pc} (h : Val l) : insS (formS l) = insS l := by
  obtain ⟨h1, h2, h3⟩ := formS_ok h
  rw [insS_atoms _ 0 h1 (Int.le_refl _), insS_atoms _ 0 h (Int.le_refl _), h2]
theorem normal_form {l : List Pc} (h : Val l) : formS (formS l) = formS l := formS_idem h

/-- the inverse of a delta that fits a string -/
theorem back {s : List UInt8} {l : List Pc} (h : fitE s l = 0) :
    fitE (applyS s l) (inverseS s l) = 0 ∧ applyS (applyS s l) (inverseS s l) = s ∧ inverseS (applyS s l) (inverseS s l) = normS l ∧
    errL (inverseS s l) = 0 ∧ formS (inverseS s l) = inverseS s l ∧ insertedS (inverseS s l) = removedS s l ∧ removedS (applyS s l) (inverseS s l) = insertedS l := by
  obtain ⟨h1, h2, h3⟩ := fit_ok h
  obtain ⟨e1, e2, e3, e4⟩ := (errL_iff l).1 h1
  obtain ⟨v1, v2, v3⟩ := inv_ok h2 s (by omega)
  have ha : applyS s l = (partSt s l).out := by unfold applyS; rw [if_pos h]
  have hv : inverseS s l = formS (invGo s l) := by unfold inverseS; rw [if_pos h]
  obtain ⟨b1, b2⟩ := inv_back h2 s (by omega)
  have hlen : ∀ (l : List Pc) (s : List UInt8), (invGo s l).length = l.length := by
    intro l
    induction l with
    | nil => intro s; rfl
    | cons p l ih => intro s; simp [invGo, ih]
  have hI : errL (invGo s l) = 0 := (errL_iff _).2 ⟨by rw [hlen]; exact e1, v1, by omega, by omega⟩
  have hF : fitE (applyS s l) (invGo s l) = 0 := fit_of hI (by rw [(apply_eq h).2, v2])
  have hF' := fit_form hF
  obtain ⟨f1, f2, f3⟩ := formS_ok v1
  rw [hv]
  refine ⟨hF', ?_, ?_, (lens_formS hI).2, formS_idem v1, ?_, ?_⟩
  · rw [apply_form hF, applyS, if_pos hF, ha, b2 h3]
  · have hl : inL (invGo s l) ≤ (applyS s l).length := by rw [(apply_eq h).2, v2]; exact Int.le_refl _
    have hl' : inL (formS (invGo s l)) ≤ (applyS s l).length := by rw [f3]; exact hl
    unfold inverseS normS
    rw [if_pos hF', if_pos h1]
    obtain ⟨g1, g2, g3⟩ := inv_ok f1 (applyS s l) hl'
    refine formS_congr g1 h2 ?_ ?_
    · rw [g2, outL_formS v1, v3]
    · rw [atoms_invGo f1 hl', f3, f2, ← atoms_invGo v1 hl, ha, b1]
  · unfold insertedS removedS
    rw [if_pos (lens_formS hI).2, if_pos h, ins_form v1, (part_out h2 (by omega)).2]
  · have hl : inL (invGo s l) ≤ (applyS s l).length := by rw [(apply_eq h).2, v2]; exact Int.le_refl _
    have hl' : inL (formS (invGo s l)) ≤ (applyS s l).length := by rw [f3]; exact hl
    obtain ⟨g1, g2, g3⟩ := inv_ok f1 (applyS s l) hl'
    unfold removedS insertedS
    rw [if_pos hF', if_pos h1, (part_out f1 hl').2, insS_atoms _ 0 g1 (Int.le_refl _), atoms_invGo f1 hl', f3, f2, ← atoms_invGo v1 hl, ha, b1, ← insS_atoms _ 0 h2 (Int.le_refl _)]
theorem apply_none {s : List UInt8} {l : List Pc} (h : fitE s l ≠ 0) : applyS s l = [] ∧ inverseS s l = [] := by
  unfold applyS inverseS
  rw [if_neg h, if_neg h]
  exact ⟨rfl, rfl⟩

/-- equivalent? -/
def equivE (a b : List Pc) : Int := if errL a = 0 then errL b else errL a
theorem apply_equiv {s : List UInt8} {a b : List Pc} (h : fitE s a = 0) (hb : errL b = 0) (he : formS a = formS b) : fitE s b = 0 ∧ applyS s b = applyS s a := by
  obtain ⟨h1, h2, h3⟩ := fit_ok h
  have hb2 := ((errL_iff b).1 hb).2.1
  obtain ⟨e1, e2⟩ := (formS_eq_iff h2 hb2).1 he
  have hf : fitE s b = 0 := fit_of hb (by omega)
  exact ⟨hf, by rw [(apply_eq hf).1, (apply_eq h).1, e2]⟩
theorem map_inj_on {α β : Type} {f : α → β} {P : α → Prop} (hf : ∀ x y, P x → P y → f x = f y → x = y) : ∀ A B : List α, (∀ x ∈ A, P x) → (∀ x ∈ B, P x) → A.map f = B.map f → A = B
  | [], [], _, _, _ => rfl
  | [], _ :: _, _, _, h => by simp at h
  | _ :: _, [], _, _, h => by simp at h
  | x :: A, y :: B, h1, h2, h => by
    simp only [List.map_cons, List.cons.injEq] at h
    rw [hf x y (h1 x (by simp)) (h2 y (by simp)) h.1, map_inj_on hf A B (fun z hz => h1 z (by simp [hz])) (fun z hz => h2 z (by simp [hz])) h.2]
theorem Rising.mem {a b : Int} {A : List Int} (h : Rising a b A) : ∀ x ∈ A, (x < 0 ∧ -256 ≤ x) ∨ (a ≤ x ∧ x < b ∧ 0 ≤ x) := by
  induction h with
  | nil _ => intro x hx; cases hx
  | neg h1 h2 _ ih =>
    intro x hx
    rcases List.mem_cons.1 hx with rfl | hx
    · exact .inl ⟨h1, h2⟩
    · exact ih x hx
  | pos h1 h2 h3 ih =>
    intro x hx
    have := h3.le
    rcases List.mem_cons.1 hx with rfl | hx
    · exact .inr ⟨h2, by omega, h1⟩
    · rcases ih x hx with h | ⟨k1, k2, k3⟩
      · exact .inl h
      · exact .inr ⟨by omega, k2, k3⟩
/-- for a string of different bytes that no text has, the result tells a delta -/
theorem tells {s : List UInt8} {a b : List Pc} (ha : fitE s a = 0) (hb : fitE s b = 0) (hd : s.Nodup) (h1 : ∀ c ∈ insS a, c ∉ s) (h2 : ∀ c ∈ insS b, c ∉ s) :
    (applyS s a = applyS s b) ↔ formS a = formS b := by
  obtain ⟨a1, a2, a3⟩ := fit_ok ha
  obtain ⟨b1, b2, b3⟩ := fit_ok hb
  rw [(apply_eq ha).1, (apply_eq hb).1, formS_eq_iff a2 b2]
  constructor
  · intro h
    refine ⟨by omega, ?_⟩
    let P : Int → Prop := fun x => (x < 0 ∧ -256 ≤ x ∧ valA [] x ∉ s) ∨ (0 ≤ x ∧ x < s.length)
    have hP : ∀ l : List Pc, Val l → inL l = s.length → (∀ c ∈ insS l, c ∉ s) → ∀ x ∈ atoms 0 l, P x := by
      intro l hl hn hc x hx
      rcases (hl.rising (Int.le_refl _)).mem x hx with ⟨k1, k2⟩ | ⟨k1, k2, k3⟩
      · refine .inl ⟨k1, k2, hc _ ?_⟩
        rw [insS_atoms l 0 hl (Int.le_refl _)]
        exact List.mem_map.2 ⟨x, List.mem_filter.2 ⟨hx, by simpa using k1⟩, rfl⟩
      · exact .inr ⟨k3, by omega⟩
    have hneg : ∀ (u : List UInt8) (x : Int), x < 0 → valA u x = valA [] x := fun u x hx => by simp [valA, hx]
    have hpos : ∀ x : Int, 0 ≤ x → x < s.length → ∃ hh : x.toNat < s.length, valA s x = s[x.toNat] := fun x k1 k2 => by
      refine ⟨by omega, ?_⟩
      rw [valA, if_neg (by omega), List.getD_eq_getElem?_getD, List.getElem?_eq_getElem (by omega)]
      rfl
    refine map_inj_on (f := valA s) (P := P) ?_ _ _ (hP a a2 a3 h1) (hP b b2 b3 h2) h
    rintro x y (⟨x1, x2, x3⟩ | ⟨x1, x2⟩) (⟨y1, y2, y3⟩ | ⟨y1, y2⟩) hxy
    · simp only [valA, x1, y1, if_true] at hxy
      have := congrArg UInt8.toNat hxy
      rw [UInt8.toNat_ofNat', UInt8.toNat_ofNat', Nat.mod_eq_of_lt (by omega), Nat.mod_eq_of_lt (by omega)] at this
      omega
    · obtain ⟨hh, e⟩ := hpos y y1 y2
      rw [hneg s x x1, e] at hxy
      exact absurd (hxy ▸ List.getElem_mem hh) x3
    · obtain ⟨hh, e⟩ := hpos x x1 x2
      rw [hneg s y y1, e] at hxy
      exact absurd (hxy ▸ List.getElem_mem hh) y3
    · obtain ⟨hx, ex⟩ := hpos x x1 x2
      obtain ⟨hy, ey⟩ := hpos y y1 y2
      rw [ex, ey] at hxy
      have := (List.getElem_inj hd).1 hxy
      omega
  · rintro ⟨-, e⟩
    rw [e]

end Go.Proofs.Ytibmnkdeepmabaa
