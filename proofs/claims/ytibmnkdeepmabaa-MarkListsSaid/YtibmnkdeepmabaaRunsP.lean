/- Plain: the runs of bytes that a delta keeps, and where positions move by them. No program. No condition. -/
import Derived.Test.YtibmnkdeepmabaaPlain
namespace Go.Proofs.Ytibmnkdeepmabaa

structure Rn where
  a : Int
  o : Int
  n : Int
def Rn.v (r : Rn) : Value := .agg #[.int .i64 r.a, .int .i64 r.o, .int .i64 r.n]
/-- the runs of bytes that are kept -/
def runsS : Int → Int → List Pc → List Rn
  | _, _, [] => []
  | a, o, p :: r => if p.k = 1 then ⟨a, o, p.n⟩ :: runsS (a + p.n) (o + p.n) r else if p.k = 3 then runsS (a + p.n) o r else runsS a (o + p.t.length) r
def turnR (r : Rn) : Rn := ⟨r.o, r.a, r.n⟩
def runsT (t : Bool) (l : List Pc) : List Rn := if t then (runsS 0 0 l).map turnR else runsS 0 0 l

theorem runsS_append (l m : List Pc) : ∀ a o : Int, Val l → runsS a o (l ++ m) = runsS a o l ++ runsS (a + inL l) (o + outL l) m := by
  induction l with
  | nil => intro a o _; simp [runsS, inL, outL]
  | cons p l ih =>
    intro a o h
    obtain ⟨v1, v2⟩ := Val.cons.1 h
    simp only [List.cons_append, runsS, inL, outL]
    rcases Pc.valid_cases v1 with ⟨x, y, z⟩ | ⟨x, y, z⟩ | ⟨x, y, z⟩
    · have e : p.out = p.n := by simp [Pc.out, x]
      rw [if_pos x, if_pos x, ih _ _ v2, e, List.cons_append, Int.add_assoc, Int.add_assoc]
    · have e : p.out = 0 := by simp [Pc.out, x]
      rw [if_neg (by omega), if_pos x, if_neg (by omega), if_pos x, ih _ _ v2, e, Int.add_assoc, Int.zero_add]
    · have e : p.out = p.t.length := by simp [Pc.out, x]
      rw [if_neg (by omega), if_neg (by omega), if_neg (by omega), if_neg (by omega), ih _ _ v2, e, y, Int.zero_add, Int.add_assoc]
theorem runsT_append (t : Bool) (l m : List Pc) (h : Val l) : ∃ r, runsT t (l ++ m) = runsT t l ++ r := by
  unfold runsT
  rw [runsS_append l m 0 0 h]
  cases t
  · exact ⟨_, rfl⟩
  · exact ⟨(runsS (0 + inL l) (0 + outL l) m).map turnR, by simp only [if_true, List.map_append]⟩
theorem runsT_snoc (t : Bool) (l : List Pc) (p : Pc) (h : Val l) (hp : p.valid = true) : runsT t (l ++ [p]) = runsT t l ++ (if p.k = 1 then [if t then ⟨outL l, inL l, p.n⟩ else ⟨inL l, outL l, p.n⟩] else []) := by
  unfold runsT
  rw [runsS_append l [p] 0 0 h, Int.zero_add, Int.zero_add]
  have e : runsS (inL l) (outL l) [p] = if p.k = 1 then [⟨inL l, outL l, p.n⟩] else [] := by
    simp only [runsS]
    rcases Pc.valid_cases hp with ⟨x, y, z⟩ | ⟨x, y, z⟩ | ⟨x, y, z⟩
    · rw [if_pos x, if_pos x]
    · rw [if_neg (by omega), if_pos x, if_neg (by omega)]
    · rw [if_neg (by omega), if_neg (by omega), if_neg (by omega)]
  rw [e]
  cases t
  · rfl
  · simp only [if_true, List.map_append]
    congr 1
    split <;> rfl
theorem io_snoc (l : List Pc) (p : Pc) : inL (l ++ [p]) = inL l + p.n ∧ outL (l ++ [p]) = outL l + p.out := by
  rw [inL_append, outL_append]
  simp [inL, outL]

/-- where a position moves by the last byte before it that is kept -/
def leftP (x : Int) : Int → List Rn → Int
  | o, [] => o
  | o, r :: l => if x ≤ r.a then o else leftP x (r.o + min r.n (x - r.a)) l
/-- where a position moves by the first byte at or behind it that is kept -/
def rightP (x e : Int) : List Rn → Int
  | [] => e
  | r :: l => if x < r.a + r.n then r.o + max 0 (x - r.a) else rightP x e l
/-- where a byte that is kept lies -/
def keptP (x : Int) : List Rn → Option Int
  | [] => none
  | r :: l => if r.a ≤ x ∧ x < r.a + r.n then some (r.o + x - r.a) else keptP x l

def upR (r s : Rn) : Prop := r.a + r.n ≤ s.a ∧ r.o + r.n ≤ s.o
theorem runs_up (l : List Pc) : ∀ a o : Int, Val l → (runsS a o l).Pairwise upR ∧ ∀ r ∈ runsS a o l, a ≤ r.a ∧ o ≤ r.o := by
  induction l with
  | nil => intro a o _; exact ⟨List.Pairwise.nil, fun r hr => by cases hr⟩
  | cons p l ih =>
    intro a o h
    obtain ⟨v1, v2⟩ := Val.cons.1 h
    have hn := Val.n v1
    simp only [runsS]
    split
    · obtain ⟨i1, i2⟩ := ih (a + p.n) (o + p.n) v2
      refine ⟨List.Pairwise.cons (fun r hr => i2 r hr) i1, fun r hr => ?_⟩
      rcases List.mem_cons.1 hr with rfl | hr
      · exact ⟨Int.le_refl _, Int.le_refl _⟩
      · have := i2 r hr; omega
    · split
      · obtain ⟨i1, i2⟩ := ih (a + p.n) o v2
        exact ⟨i1, fun r hr => by have := i2 r hr; omega⟩
      · obtain ⟨i1, i2⟩ := ih a (o + p.t.length) v2
        exact ⟨i1, fun r hr => by have := i2 r hr; omega⟩
theorem runsT_up {l : List Pc} (h : Val l) (t : Bool) : (runsT t l).Pairwise upR := by
  have h1 := (runs_up l 0 0 h).1
  cases t
  · exact h1
  · show ((runsS 0 0 l).map turnR).Pairwise upR
    rw [List.pairwise_map]
    exact h1.imp fun h => ⟨h.2, h.1⟩

end Go.Proofs.Ytibmnkdeepmabaa
