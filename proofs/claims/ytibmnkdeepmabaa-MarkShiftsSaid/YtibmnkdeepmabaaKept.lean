/- shift.Kept: where a byte that is kept lies. Condition: the pieces and the number read as values of their types. -/
import Derived.Test.YtibmnkdeepmabaaShift1
namespace Go.Proofs.Ytibmnkdeepmabaa
open Go.RowKit Go.Shelf
attribute [local go_sem] Oper.semAt_some

def keptE (l : List Pc) (x : Int) : Int := if errL l = 0 then (if x < 0 ∨ inL l ≤ x then 3 else 0) else errL l
def keptR (l : List Pc) (x : Int) : Option Int := if keptE l x = 0 then keptP x (runsT false l) else none
def optV (o : Option Int) : Int := o.getD 0
def keptV (l : List Pc) (x : Int) : Value := .tuple #[.int .i64 (optV (keptR l x)), .bool (keptR l x).isSome, .int .i64 (keptE l x)]

/-- Kept's variables: the number, the three results -/
structure KV (w : World) (x a : Int) (b : Bool) (c : Int) (W : World) : Prop where
  x : Var W w.heap.size 3 (.int .i64 x)
  a : Var W (w.heap.size + 1) 3 (.int .i64 a)
  b : Var W (w.heap.size + 1 + 1) 4 (.bool b)
  c : Var W (w.heap.size + 1 + 1 + 1) 24 (.int .i64 c)
  bel : Below w.heap.size w W
  sz : w.heap.size + 1 + 1 + 1 + 1 ≤ W.heap.size
theorem KV.keep {w : World} {x a : Int} {b : Bool} {c : Int} {C D : World} (h : KV w x a b c C) (hb : Below (w.heap.size + 1 + 1 + 1 + 1) C D) : KV w x a b c D :=
  ⟨var_below h.x hb (by omega), var_below h.a hb (by omega), var_below h.b hb (by omega), var_below h.c hb (by omega), h.bel.trans (hb.mono (by omega)), Nat.le_trans h.sz hb.size⟩
def kvSet (w : World) (a : Int) (b : Bool) (c : Int) (W : World) : World :=
  ((W.setCell ⟨w.heap.size + 1, 0, none⟩ (.int .i64 a)).setCell ⟨w.heap.size + 1 + 1, 0, none⟩ (.bool b)).setCell ⟨w.heap.size + 1 + 1 + 1, 0, none⟩ (.int .i64 c)
theorem KV.set {w : World} {x a : Int} {b : Bool} {c : Int} {W : World} (h : KV w x a b c W) (a' : Int) (b' : Bool) (c' : Int) :
    KV w x a' b' c' (kvSet w a' b' c' W) ∧ Fr (betw w.heap.size (w.heap.size + 1 + 1 + 1 + 1)) W (kvSet w a' b' c' W) := by
  obtain ⟨h1, h2, h3, h4, h5, h6⟩ := h
  have f1 : Fr (· = w.heap.size + 1) W (W.setCell ⟨w.heap.size + 1, 0, none⟩ (.int .i64 a')) := Fr.setCell _ W ⟨w.heap.size + 1, 0, none⟩ _ rfl
  have f2 : Fr (· = w.heap.size + 1 + 1) (W.setCell ⟨w.heap.size + 1, 0, none⟩ (.int .i64 a')) ((W.setCell ⟨w.heap.size + 1, 0, none⟩ (.int .i64 a')).setCell ⟨w.heap.size + 1 + 1, 0, none⟩ (.bool b')) := Fr.setCell _ _ ⟨w.heap.size + 1 + 1, 0, none⟩ _ rfl
  have f3 : Fr (· = w.heap.size + 1 + 1 + 1) ((W.setCell ⟨w.heap.size + 1, 0, none⟩ (.int .i64 a')).setCell ⟨w.heap.size + 1 + 1, 0, none⟩ (.bool b')) (kvSet w a' b' c' W) := Fr.setCell _ _ ⟨w.heap.size + 1 + 1 + 1, 0, none⟩ _ rfl
  refine ⟨⟨((h1.keep f1 (by omega)).keep f2 (by omega)).keep f3 (by omega), ((h2.set _).keep f2 (by omega)).keep f3 (by omega), (((h3.keep f1 (by omega)).set _).keep f3 (by omega)), ((h4.keep f1 (by omega)).keep f2 (by omega)).set _, ?_, ?_⟩, ?_⟩
  · exact ((h5.setCell (by exact Nat.le_succ _) _).setCell (by exact Nat.le_trans (Nat.le_succ _) (Nat.le_succ _)) _).setCell (by exact Nat.le_trans (Nat.le_trans (Nat.le_succ _) (Nat.le_succ _)) (Nat.le_succ _)) _
  · have := f1.size; have := f2.size; have := f3.size; omega
  · exact ((f1.mono fun i _ hi => by unfold betw; omega).trans (f2.mono fun i _ hi => by unfold betw; omega)).trans (f3.mono fun i _ hi => by unfold betw; omega)

structure KeptX (w : World) (x : Int) (xs : List Rn) (c : Code) (W : World) : Prop where
  c : c = .ret
  v : ∃ z, keptP x xs = some z ∧ KV w x z true 0 W

end Go.Proofs.Ytibmnkdeepmabaa
