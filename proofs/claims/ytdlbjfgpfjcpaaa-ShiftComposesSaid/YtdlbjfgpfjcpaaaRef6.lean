/- quartoref06.Runs, turned, left, right: what they return. Condition: valid pieces of moderate size. -/
import Derived.Test.YtdlbjfgpfjcpaaaShift1
import Derived.Test.YtdlbjfgpfjcpaaaRef4a
import Derived.StillTailTactics
import Derived.IntWalk
namespace Go.Proofs.Ytdlbjfgpfjcpaaa
open Go.RowKit

def Rn.cells (r : Rn) : List Value := [.int .i64 r.a, .int .i64 r.o, .int .i64 r.n]
def rnE : Enc Rn := ⟨3, by decide, Rn.cells, fun _ => rfl, by
  intro x u h
  simp [Rn.cells] at h
  rcases h with rfl | rfl | rfl <;> rfl⟩
theorem Sl.rn {w : World} {v : Value} {l : List Rn} (h : Sl rnE w v l) {k : Nat} (hk : k < l.length) :
    ∃ b off cap, v = .slice (some ⟨b, off, none⟩) l.length cap ∧ b < w.heap.size ∧ ∀ w', Below w.heap.size w w' → w'.cell? ⟨b, off + k * 3, none⟩ = some (.int .i64 l[k].a) ∧ w'.cell? ⟨b, off + k * 3 + 1, none⟩ = some (.int .i64 l[k].o) ∧ w'.cell? ⟨b, off + k * 3 + 2, none⟩ = some (.int .i64 l[k].n) := by
  obtain ⟨A, cap, rfl, h2, h3, h4⟩ := h
  obtain ⟨b, off, rfl, hb, hc⟩ := h4 (by omega)
  have hx : l[k]? = some l[k] := List.getElem?_eq_getElem hk
  exact ⟨b, off, cap, rfl, hb, fun w' hb' => ⟨(hb'.cell (p := ⟨b, _, none⟩) hb).trans (hc k 0 _ _ hx rfl), (hb'.cell (p := ⟨b, _, none⟩) hb).trans (hc k 1 _ _ hx rfl), (hb'.cell (p := ⟨b, _, none⟩) hb).trans (hc k 2 _ _ hx rfl)⟩⟩
theorem runs_len (l : List Pc) : ∀ a o : Int, (runsS a o l).length ≤ l.length := by
  induction l with
  | nil => intro a o; simp [runsS]
  | cons p l ih =>
    intro a o
    simp only [runsS]
    split
    · have := ih (a + p.n) (o + p.n); simp; omega
    · split
      · have := ih (a + p.n) o; simp; omega
      · have := ih a (o + p.t.length); simp; omega

/-- the specification's left: it goes on behind the position -/
def leftQ (x : Int) : Int → List Rn → Int
  | o, [] => o
  | o, r :: l => leftQ x (if r.a < x then r.o + min (x - r.a) r.n else o) l
def Rn.okL (l : List Rn) : Prop := ∀ r ∈ l, r.ok
theorem leftQ_step (x o : Int) (l : List Rn) (k : Nat) (h : k < l.length) : leftQ x o (l.drop k) = leftQ x (if l[k].a < x then l[k].o + min (x - l[k].a) l[k].n else o) (l.drop (k + 1)) := by
  rw [List.drop_eq_getElem_cons h, leftQ]

theorem rightP_step (x e : Int) (l : List Rn) (k : Nat) (h : k < l.length) : rightP x e (l.drop k) = if x < l[k].a + l[k].n then l[k].o + max 0 (x - l[k].a) else rightP x e (l.drop (k + 1)) := by
  rw [List.drop_eq_getElem_cons h, rightP]

theorem kept_step (x : Int) (l : List Rn) (k : Nat) (h : k < l.length) : keptP x (l.drop k) = if l[k].a ≤ x ∧ x < l[k].a + l[k].n then some (l[k].o + x - l[k].a) else keptP x (l.drop (k + 1)) := by
  rw [List.drop_eq_getElem_cons h, keptP]

/-- two runs, one behind the other -/
theorem leftQ_eq (x : Int) : ∀ (xs : List Rn) (o : Int), xs.Pairwise upR → (∀ r ∈ xs, 0 ≤ r.n) → leftQ x o xs = leftP x o xs
  | [], _, _, _ => rfl
  | r :: l, o, h, hn => by
    rw [List.pairwise_cons] at h
    rw [leftQ, leftP]
    by_cases hx : x ≤ r.a
    · rw [if_pos hx, if_neg (by omega)]
      have key : ∀ l : List Rn, (∀ s ∈ l, x ≤ s.a) → leftQ x o l = o := by
        intro l
        induction l with
        | nil => intro _; rfl
        | cons s l ih =>
          intro hs
          rw [leftQ, if_neg (by have := hs s (by simp); omega)]
          exact ih fun t ht => hs t (by simp [ht])
      refine key l fun s hs => ?_
      have h1 := (h.1 s hs).1
      have h2 := hn r (by simp)
      omega
    · rw [if_neg hx, if_pos (by omega), leftQ_eq x l _ h.2 (fun s hs => hn s (by simp [hs])), Int.min_comm]

end Go.Proofs.Ytdlbjfgpfjcpaaa
