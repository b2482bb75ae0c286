/- What the proofs of this seat share: slices that read as lists of elements of a fixed number of cells, blocks, frames. No condition. -/
import Derived.Test.YtibmnkdeepmabaaProg
import Derived.WalkKit
import Derived.BigQuiet
import Derived.Deep.QuietTactic
import Derived.Deep.DeepCutAuto
import Derived.Deep.DeepFit
import Derived.Deep.AppendLies
import Derived.Deep.Draws
import Derived.Maps.AppendAt
import Derived.RegionTactic
import Derived.OwnWalk
import Derived.ChangeSame
import Derived.Lib.Hide
import Derived.WalkSpells
import Derived.WalkLawsBesides
namespace Go.Proofs.Ytibmnkdeepmabaa
open Go.RowKit Go.WideShapes Go.ChangeShapes

theorem block_of_add (a : Addr) (n : Nat) : (a.add n).block = a.block := by unfold Addr.add; split <;> rfl
theorem add_of_add (a : Addr) (i j : Nat) : (a.add i).add j = a.add (i + j) := by
  unfold Addr.add
  by_cases hi : i = 0 <;> by_cases hj : j = 0 <;> simp [hi, hj, Nat.add_assoc]
theorem add_flat (b off i : Nat) : (⟨b, off, none⟩ : Addr).add i = ⟨b, off + i, none⟩ := by
  unfold Addr.add; split <;> simp_all

/-- a kind of element: how many cells, which -/
structure Enc (α : Type) where
  sz : Nat
  pos : 0 < sz
  cells : α → List Value
  len : ∀ x, (cells x).length = sz
  one : ∀ x u, u ∈ cells x → u.oneCell' = true

section
variable {α : Type} (E : Enc α)

def Enc.flat (l : List α) : List Value := l.flatMap E.cells
theorem Enc.flat_nil : E.flat [] = [] := rfl
theorem Enc.flat_cons (x : α) (l : List α) : E.flat (x :: l) = E.cells x ++ E.flat l := rfl
theorem Enc.flat_append (l m : List α) : E.flat (l ++ m) = E.flat l ++ E.flat m := by simp [Enc.flat]
theorem Enc.flat_len (l : List α) : (E.flat l).length = l.length * E.sz := by
  induction l with
  | nil => simp [Enc.flat]
  | cons x l ih => rw [E.flat_cons, List.length_append, E.len, ih, List.length_cons, Nat.add_mul]; omega
theorem Enc.flat_one (l : List α) : ∀ u ∈ E.flat l, u.oneCell' = true := by
  intro u hu
  obtain ⟨x, _, hx⟩ := List.mem_flatMap.1 hu
  exact E.one x u hx
theorem Enc.flat_at (l : List α) : ∀ (i j : Nat) (x : α) (u : Value), l[i]? = some x → (E.cells x)[j]? = some u → (E.flat l)[i * E.sz + j]? = some u := by
  induction l with
  | nil => intro i j x u h; simp at h
  | cons y l ih =>
    intro i j x u h hu
    rw [E.flat_cons]
    cases i with
    | zero =>
      simp only [List.getElem?_cons_zero, Option.some.injEq] at h
      subst h
      obtain ⟨hj, _⟩ := List.getElem?_eq_some_iff.1 hu
      rw [Nat.zero_mul, Nat.zero_add, List.getElem?_append_left hj, hu]
    | succ i =>
      simp only [List.getElem?_cons_succ] at h
      rw [List.getElem?_append_right (by rw [E.len, Nat.add_mul]; omega), E.len]
      have : (i + 1) * E.sz + j - E.sz = i * E.sz + j := by rw [Nat.add_mul]; omega
      rw [this]
      exact ih i j x u h hu

/-- the slice value v reads, in the world w, as the list l -/
def Sl (w : World) (v : Value) (l : List α) : Prop :=
  ∃ A cap, v = .slice A l.length cap ∧ l.length ≤ cap ∧ cap ≤ maxLen ∧
    (0 < l.length → ∃ b off, A = some ⟨b, off, none⟩ ∧ b < w.heap.size ∧ ∀ i j x u, l[i]? = some x → (E.cells x)[j]? = some u → w.cell? ⟨b, off + (i * E.sz + j), none⟩ = some u)

variable {E} {w w' : World} {v : Value} {l : List α}

theorem Sl.keep (h : Sl E w v l) (hs : w.heap.size ≤ w'.heap.size) (hk : ∀ b o, b < w.heap.size → w'.cell? ⟨b, o, none⟩ = w.cell? ⟨b, o, none⟩) : Sl E w' v l := by
  obtain ⟨A, cap, h1, h2, h3, h4⟩ := h
  refine ⟨A, cap, h1, h2, h3, fun hp => ?_⟩
  obtain ⟨b, off, hA, hb, hc⟩ := h4 hp
  exact ⟨b, off, hA, Nat.lt_of_lt_of_le hb hs, fun i j x u hx hu => (hk _ _ hb).trans (hc i j x u hx hu)⟩
theorem Sl.below {B : Nat} (h : Sl E w v l) (hb : Below B w w') (hB : w.heap.size ≤ B) : Sl E w' v l :=
  h.keep hb.size fun b _ hlt => hb.cell (p := ⟨b, _, none⟩) (by exact Nat.lt_of_lt_of_le hlt hB)
theorem Sl.ext (h : Sl E w v l) (hb : Below w.heap.size w w') : Sl E w' v l := h.below hb (Nat.le_refl _)
theorem Sl.alloc (h : Sl E w v l) (o : Obj) : Sl E (w.alloc o) v l := h.ext ((Below.refl _ _).alloc (Nat.le_refl _) o)
theorem Sl.drewN (h : Sl E w v l) (n : Nat) : Sl E (w.drewN n) v l := h
theorem Sl.len_le (h : Sl E w v l) : l.length ≤ maxLen := by
  obtain ⟨A, cap, _, h2, h3, _⟩ := h; omega
theorem Sl.nil (E : Enc α) (w : World) : Sl E w (.slice none 0 0) [] := ⟨none, 0, rfl, by simp, by simp [maxLen], fun h => by simp at h⟩

theorem Sl.of_own {base : Nat} {e : TypeId} {n : Nat} (h : w.ownsRow base e E.sz v n (E.flat l)) : Sl E w v l := by
  have hn : n = l.length := by
    have := h.1; rw [E.flat_len] at this
    exact (Nat.eq_of_mul_eq_mul_right E.pos this).symm
  subst hn
  rcases h.2 with ⟨rfl, h0⟩ | ⟨g, cap, cur, rfl, _, hg, hnc, hcm, _, _⟩
  · have : l = [] := List.eq_nil_of_length_eq_zero h0
    subst this
    exact Sl.nil E w
  · refine ⟨some ⟨g, 0, none⟩, cap, rfl, hnc, hcm, fun _ => ⟨g, 0, rfl, (Array.getElem?_eq_some_iff.1 hg).1, fun i j x u hx hu => ?_⟩⟩
    have := h.cells (g := g) rfl (i * E.sz + j) u (E.flat_at l i j x u hx hu)
    rw [add_flat] at this
    simpa using this
end

/-- what a call leaves below its own blocks, as two rules for the walk -/
theorem bcell {W w1 : World} {B : Nat} (hb : Below B W w1) : (∀ b o, b < B → w1.cell? ⟨b, o, none⟩ = W.cell? ⟨b, o, none⟩) ∧ (∀ b o, b < B → w1.frozen? ⟨b, o, none⟩ = W.frozen? ⟨b, o, none⟩) :=
  ⟨fun b o h => hb.cell (p := ⟨b, o, none⟩) h, fun b o h => hb.frozen (p := ⟨b, o, none⟩) h⟩

theorem below_drewN {B : Nat} {a w : World} (h : Below B a w) (n : Nat) : Below B a (w.drewN n) := ⟨h.os, h.tape, h.output, h.size, h.block⟩

theorem ret_int {k : IntKind} {a b : Int} (h : a = b) : Ending.returned (.int k a) = .returned (.int k b) := by rw [h]
theorem ret_bool {a b : Bool} (h : a = b) : Ending.returned (.bool a) = .returned (.bool b) := by rw [h]

/-- a string's bytes -/
def S (l : List UInt8) : ByteArray := ⟨l.toArray⟩
theorem S_size (l : List UInt8) : (S l).size = l.length := by simp [S, ByteArray.size]

/-- a piece -/
structure Pc where
  k : Int
  n : Int
  t : List UInt8

def Pc.cells (p : Pc) : List Value := [.int .u8 p.k, .int .i64 p.n, .string ⟨p.t.toArray⟩]
def Pc.v (p : Pc) : Value := .agg #[.int .u8 p.k, .int .i64 p.n, .string ⟨p.t.toArray⟩]
theorem Pc.cells_one (x : Pc) (u : Value) (hu : u ∈ x.cells) : u.oneCell' = true := by
  simp [Pc.cells] at hu
  rcases hu with rfl | rfl | rfl <;> rfl
def pcE : Enc Pc := ⟨3, by decide, Pc.cells, fun _ => rfl, Pc.cells_one⟩

/-- a value of the type -/
def Pc.wf (p : Pc) : Prop := 0 ≤ p.k ∧ p.k ≤ 255 ∧ -9223372036854775808 ≤ p.n ∧ p.n ≤ 9223372036854775807 ∧ p.t.length ≤ 9223372036854775807

/-- what the slice of pieces gives a round at place k -/
theorem Sl.pc {w : World} {v : Value} {l : List Pc} (h : Sl pcE w v l) {k : Nat} (hk : k < l.length) :
    ∃ b off cap, v = .slice (some ⟨b, off, none⟩) l.length cap ∧ b < w.heap.size ∧ w.cell? ⟨b, off + k * 3, none⟩ = some (.int .u8 l[k].k) ∧ w.cell? ⟨b, off + k * 3 + 1, none⟩ = some (.int .i64 l[k].n) ∧ w.cell? ⟨b, off + k * 3 + 2, none⟩ = some (.string ⟨l[k].t.toArray⟩) := by
  obtain ⟨A, cap, rfl, h2, h3, h4⟩ := h
  obtain ⟨b, off, rfl, hb, hc⟩ := h4 (by omega)
  have hx : l[k]? = some l[k] := List.getElem?_eq_getElem hk
  exact ⟨b, off, cap, rfl, hb, hc k 0 _ _ hx rfl, hc k 1 _ _ hx rfl, hc k 2 _ _ hx rfl⟩

end Go.Proofs.Ytibmnkdeepmabaa
