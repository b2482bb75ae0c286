/- What the proofs of this seat share: slices that read as lists of elements of a fixed number of cells, blocks, frames. No condition. -/
import Derived.Test.YtclmjnobacepjaaGreatProg
import Derived.WalkKit
import Derived.BigQuiet
import Derived.Deep.QuietTactic
import Derived.Deep.DeepCutAuto
import Derived.Deep.DeepFit
import Derived.Deep.AppendLies
import Derived.Deep.Draws
import Derived.Maps.AppendAt
import Derived.RegionTactic
import Derived.OwnWalk
import Derived.ChangeSame
import Derived.Lib.Hide
import Derived.WalkSpells
import Derived.WalkLawsBesides
import Derived.Deep.AppendSrc
namespace Go.Proofs.YtclmjnobacepjaaGreat
open Go.RowKit Go.WideShapes Go.ChangeShapes

theorem block_of_add (a : Addr) (n : Nat) : (a.add n).block = a.block := by unfold Addr.add; split <;> rfl
theorem add_of_add (a : Addr) (i j : Nat) : (a.add i).add j = a.add (i + j) := by
  unfold Addr.add
  by_cases hi : i = 0 <;> by_cases hj : j = 0 <;> simp [hi, hj, Nat.add_assoc]
theorem add_flat (b off i : Nat) : (⟨b, off, none⟩ : Addr).add i = ⟨b, off + i, none⟩ := by
  unfold Addr.add; split <;> simp_all

/-- a kind of element: how many cells, which -/
structure Enc (α : Type) where
  sz : Nat
  pos : 0 < sz
  cells : α → List Value
  len : ∀ x, (cells x).length = sz
  one : ∀ x u, u ∈ cells x → u.oneCell' = true

section
variable {α : Type} (E : Enc α)

def Enc.flat (l : List α) : List Value := l.flatMap E.cells
theorem Enc.flat_nil : E.flat [] = [] := rfl
theorem Enc.flat_cons (x : α) (l : List α) : E.flat (x :: l) = E.cells x ++ E.flat l := rfl
theorem Enc.flat_append (l m : List α) : E.flat (l ++ m) = E.flat l ++ E.flat m := by simp [Enc.flat]
theorem Enc.flat_len (l : List α) : (E.flat l).length = l.length * E.sz := by
  induction l with
  | nil => simp [Enc.flat]
  | cons x l ih => rw [E.flat_cons, List.length_append, E.len, ih, List.length_cons, Nat.add_mul]; omega
theorem Enc.flat_one (l : List α) : ∀ u ∈ E.flat l, u.oneCell' = true := by
  intro u hu
  obtain ⟨x, _, hx⟩ := List.mem_flatMap.1 hu
  exact E.one x u hx
theorem Enc.flat_at (l : List α) : ∀ (i j : Nat) (x : α) (u : Value), l[i]? = some x → (E.cells x)[j]? = some u → (E.flat l)[i * E.sz + j]? = some u := by
  induction l with
  | nil => intro i j x u h; simp at h
  | cons y l ih =>
    intro i j x u h hu
    rw [E.flat_cons]
    cases i with
    | zero =>
      simp only [List.getElem?_cons_zero, Option.some.injEq] at h
      subst h
      obtain ⟨hj, _⟩ := List.getElem?_eq_some_iff.1 hu
      rw [Nat.zero_mul, Nat.zero_add, List.getElem?_append_left hj, hu]
    | succ i =>
      simp only [List.getElem?_cons_succ] at h
      rw [List.getElem?_append_right (by rw [E.len, Nat.add_mul]; omega), E.len]
      have : (i + 1) * E.sz + j - E.sz = i * E.sz + j := by rw [Nat.add_mul]; omega
      rw [this]
      exact ih i j x u h hu

/-- the slice value v reads, in the world w, as the list l -/
def Sl (w : World) (v : Value) (l : List α) : Prop :=
  ∃ A cap, v = .slice A l.length cap ∧ l.length ≤ cap ∧ cap ≤ maxLen ∧
    (0 < l.length → ∃ b off, A = some ⟨b, off, none⟩ ∧ b < w.heap.size ∧ ∀ i j x u, l[i]? = some x → (E.cells x)[j]? = some u → w.cell? ⟨b, off + (i * E.sz + j), none⟩ = some u)

variable {E} {w w' : World} {v : Value} {l : List α}

theorem Sl.keep (h : Sl E w v l) (hs : w.heap.size ≤ w'.heap.size) (hk : ∀ b o, b < w.heap.size → w'.cell? ⟨b, o, none⟩ = w.cell? ⟨b, o, none⟩) : Sl E w' v l := by
  obtain ⟨A, cap, h1, h2, h3, h4⟩ := h
  refine ⟨A, cap, h1, h2, h3, fun hp => ?_⟩
  obtain ⟨b, off, hA, hb, hc⟩ := h4 hp
  exact ⟨b, off, hA, Nat.lt_of_lt_of_le hb hs, fun i j x u hx hu => (hk _ _ hb).trans (hc i j x u hx hu)⟩
theorem Sl.below {B : Nat} (h : Sl E w v l) (hb : Below B w w') (hB : w.heap.size ≤ B) : Sl E w' v l :=
  h.keep hb.size fun b _ hlt => hb.cell (p := ⟨b, _, none⟩) (by exact Nat.lt_of_lt_of_le hlt hB)
theorem Sl.ext (h : Sl E w v l) (hb : Below w.heap.size w w') : Sl E w' v l := h.below hb (Nat.le_refl _)
theorem Sl.alloc (h : Sl E w v l) (o : Obj) : Sl E (w.alloc o) v l := h.ext ((Below.refl _ _).alloc (Nat.le_refl _) o)
theorem Sl.drewN (h : Sl E w v l) (n : Nat) : Sl E (w.drewN n) v l := h
theorem Sl.len_le (h : Sl E w v l) : l.length ≤ maxLen := by
  obtain ⟨A, cap, _, h2, h3, _⟩ := h; omega
theorem Sl.nil (E : Enc α) (w : World) : Sl E w (.slice none 0 0) [] := ⟨none, 0, rfl, by simp, by simp [maxLen], fun h => by simp at h⟩

theorem Sl.of_own {base : Nat} {e : TypeId} {n : Nat} (h : w.ownsRow base e E.sz v n (E.flat l)) : Sl E w v l := by
  have hn : n = l.length := by
    have := h.1; rw [E.flat_len] at this
    exact (Nat.eq_of_mul_eq_mul_right E.pos this).symm
  subst hn
  rcases h.2 with ⟨rfl, h0⟩ | ⟨g, cap, cur, rfl, _, hg, hnc, hcm, _, _⟩
  · have : l = [] := List.eq_nil_of_length_eq_zero h0
    subst this
    exact Sl.nil E w
  · refine ⟨some ⟨g, 0, none⟩, cap, rfl, hnc, hcm, fun _ => ⟨g, 0, rfl, (Array.getElem?_eq_some_iff.1 hg).1, fun i j x u hx hu => ?_⟩⟩
    have := h.cells (g := g) rfl (i * E.sz + j) u (E.flat_at l i j x u hx hu)
    rw [add_flat] at this
    simpa using this
end

/-- what a call leaves below its own blocks, as two rules for the walk -/
theorem bcell {W w1 : World} {B : Nat} (hb : Below B W w1) : (∀ b o, b < B → w1.cell? ⟨b, o, none⟩ = W.cell? ⟨b, o, none⟩) ∧ (∀ b o, b < B → w1.frozen? ⟨b, o, none⟩ = W.frozen? ⟨b, o, none⟩) :=
  ⟨fun b o h => hb.cell (p := ⟨b, o, none⟩) h, fun b o h => hb.frozen (p := ⟨b, o, none⟩) h⟩

theorem below_drewN {B : Nat} {a w : World} (h : Below B a w) (n : Nat) : Below B a (w.drewN n) := ⟨h.os, h.tape, h.output, h.size, h.block⟩

theorem ret_int {k : IntKind} {a b : Int} (h : a = b) : Ending.returned (.int k a) = .returned (.int k b) := by rw [h]
theorem ret_bool {a b : Bool} (h : a = b) : Ending.returned (.bool a) = .returned (.bool b) := by rw [h]

/-- a string's bytes -/
def S (l : List UInt8) : ByteArray := ⟨l.toArray⟩
theorem S_size (l : List UInt8) : (S l).size = l.length := by simp [S, ByteArray.size]

/-- a piece -/
structure Pc where
  k : Int
  n : Int
  t : List UInt8

def Pc.cells (p : Pc) : List Value := [.int .u8 p.k, .int .i64 p.n, .string ⟨p.t.toArray⟩]
def Pc.v (p : Pc) : Value := .agg #[.int .u8 p.k, .int .i64 p.n, .string ⟨p.t.toArray⟩]
theorem Pc.cells_one (x : Pc) (u : Value) (hu : u ∈ x.cells) : u.oneCell' = true := by
  simp [Pc.cells] at hu
  rcases hu with rfl | rfl | rfl <;> rfl
def pcE : Enc Pc := ⟨3, by decide, Pc.cells, fun _ => rfl, Pc.cells_one⟩

/-- a value of the type -/
def Pc.wf (p : Pc) : Prop := 0 ≤ p.k ∧ p.k ≤ 255 ∧ -9223372036854775808 ≤ p.n ∧ p.n ≤ 9223372036854775807 ∧ p.t.length ≤ 9223372036854775807

/-- what the slice of pieces gives a round at place k -/
theorem Sl.pc {w : World} {v : Value} {l : List Pc} (h : Sl pcE w v l) {k : Nat} (hk : k < l.length) :
    ∃ b off cap, v = .slice (some ⟨b, off, none⟩) l.length cap ∧ b < w.heap.size ∧ w.cell? ⟨b, off + k * 3, none⟩ = some (.int .u8 l[k].k) ∧ w.cell? ⟨b, off + k * 3 + 1, none⟩ = some (.int .i64 l[k].n) ∧ w.cell? ⟨b, off + k * 3 + 2, none⟩ = some (.string ⟨l[k].t.toArray⟩) := by
  obtain ⟨A, cap, rfl, h2, h3, h4⟩ := h
  obtain ⟨b, off, rfl, hb, hc⟩ := h4 (by omega)
  have hx : l[k]? = some l[k] := List.getElem?_eq_getElem hk
  exact ⟨b, off, cap, rfl, hb, hc k 0 _ _ hx rfl, hc k 1 _ _ hx rfl, hc k 2 _ _ hx rfl⟩

end Go.Proofs.YtclmjnobacepjaaGreat

/- append onto a row that the call owns, of a slice's elements or a string's bytes: where the new row lies, and what has changed. No condition but sizes. -/
namespace Go.Proofs.YtclmjnobacepjaaGreat
open Go.RowKit

theorem setCells_row (g : Nat) {e : TypeId} {fz : Nat × Nat} : ∀ (vs : List Value) (o : Nat) (w : World) (cur : Array Value), w.heap[g]? = some (.cells cur e fz) → o + vs.length ≤ cur.size →
    ∃ cur', (w.setCells g o vs).heap[g]? = some (.cells cur' e fz) ∧ cur'.toList = cur.toList.take o ++ vs ++ cur.toList.drop (o + vs.length)
  | [], o, w, cur, h, _ => ⟨cur, h, by simp⟩
  | v :: vs, o, w, cur, h, hl => by
    rw [List.length_cons] at hl
    have h1 : (w.setCell ⟨g, o, none⟩ v).heap[g]? = some (.cells (cur.setIfInBounds o v) e fz) := by simp [World.setCell, Array.getElem?_modify, h]
    obtain ⟨cur', h2, h3⟩ := setCells_row g vs (o + 1) _ _ h1 (by simp; omega)
    refine ⟨cur', h2, ?_⟩
    rw [h3, Array.toList_setIfInBounds]
    have hlt : o < cur.toList.length := by simp; omega
    rw [List.take_add_one, List.getElem?_set_self hlt, List.take_set_of_le (Nat.le_refl _), List.drop_set_of_lt (by omega)]
    simp [Nat.add_assoc, Nat.add_comm 1]

theorem setCells_other (g k : Nat) (hk : k ≠ g) : ∀ (vs : List Value) (o : Nat) (w : World), (w.setCells g o vs).heap[k]? = w.heap[k]? ∧ (w.setCells g o vs).heap.size = w.heap.size ∧ (w.setCells g o vs).os = w.os ∧ (w.setCells g o vs).tape = w.tape ∧ (w.setCells g o vs).output = w.output
  | [], o, w => ⟨rfl, rfl, rfl, rfl, rfl⟩
  | v :: vs, o, w => by
    obtain ⟨h1, h2, h3, h4, h5⟩ := setCells_other g k hk vs (o + 1) (w.setCell ⟨g, o, none⟩ v)
    exact ⟨h1.trans (Below.heap_setCell w ⟨g, o, none⟩ v k hk), h2.trans (by simp [World.setCell]), h3, h4, h5⟩

section
variable {P : Program} (w : World)

theorem append_own (t tx ty e : TypeId) (i : TypeInfo) (z : Value) (size bytes : Nat) (ht : P.underlying t = some (.slice e)) (hi : P.info? e = some i) (hz : i.zero = some z)
    (hsize : i.size = size) (hby : i.bytes = bytes) (hzs : z.cells.size = size) (hsz : 0 < size)
    (v : Value) (n : Nat) (xs : List Value) (hown : w.ownsRow 0 e size v n xs) (x : Value) (m : Nat) (news : List Value) (hs : Src P size tx x m news w)
    (h63 : n + m ≤ maxLen) (hbytes : (n + m) * bytes ≤ 140737488355328) :
    ∃ v' w', (Builtin.append_ #[t, tx] ty #[v, x]).run P w = .ok v' w' ∧ w'.ownsRow 0 e size v' (n + m) (xs ++ news) ∧ w.grownBy w' v.ownBlock ∧
      (v'.ownBlock = v.ownBlock ∨ v'.ownBlock = some w.heap.size) ∧ (v' = .slice none 0 0 ↔ v = .slice none 0 0 ∧ m = 0) := by
  subst hsize
  subst hby
  have hxl := hown.1
  have hlen : (xs ++ news).length = (n + m) * i.size := by rw [List.length_append, hxl, hs.newsLen, Nat.add_mul]
  unfold maxLen at h63
  have grows : ∀ (base : Option Addr) (cap : Nat), v = .slice base n cap → cap < n + m → (Builtin.firstCells i.size n (.slice base n cap)).run P w.drew = .ok xs.toArray w.drew →
      ∃ v' w', (Builtin.append_ #[t, tx] ty #[v, x]).run P w = .ok v' w' ∧ w'.ownsRow 0 e i.size v' (n + m) (xs ++ news) ∧ w.grownBy w' v.ownBlock ∧
      (v'.ownBlock = v.ownBlock ∨ v'.ownBlock = some w.heap.size) ∧ (v' = .slice none 0 0 ↔ v = .slice none 0 0 ∧ m = 0) := by
    intro base cap hv hc hf
    subst hv
    have hr := run_append_grow_src (P := P) w t tx ty e i z ht hi hz base n cap xs hf x m news hs hc (by omega) (growslice_fits (by omega) hbytes)
    have hge := grownCap_ge w (n + m) cap e
    have hcm : grownCap w (n + m) cap e ≤ maxLen := grownCap_le_maxLen w (n + m) cap e (by unfold maxLen; omega)
    refine ⟨_, _, hr, ⟨hlen, .inr ⟨w.heap.size, _, _, rfl, Nat.zero_le _, heap_alloc_new w.drew _, hge, hcm, ?_, ?_⟩⟩, ⟨rfl, rfl, rfl, by simp, fun k hk _ => Below.heap_alloc w.drew _ k hk⟩, .inr rfl, ?_⟩
    · rw [Array.size_append, List.size_toArray, size_zeroCells, hzs, hlen, ← Nat.add_mul]
      congr 1
      omega
    · rw [Array.toList_append, ← hlen]
      exact List.take_left
    · constructor
      · intro h; cases h
      · rintro ⟨h, h0⟩
        injection h with h1 h2 h3
        omega
  rcases hown.2 with ⟨rfl, rfl⟩ | ⟨g, cap, cur, rfl, hbg, hg, hnc, hcm, hcs, htake⟩
  · have hx : xs = [] := List.eq_nil_of_length_eq_zero (by simpa using hxl)
    subst hx
    by_cases hm : m = 0
    · subst hm
      have hn : news = [] := List.eq_nil_of_length_eq_zero (by simpa using hs.newsLen)
      subst hn
      refine ⟨.slice none 0 0, w, ?_, World.ownsRow_nil w 0 e i.size, ⟨rfl, rfl, rfl, Nat.le_refl _, fun _ _ _ => rfl⟩, .inl rfl, by simp⟩
      have h1 := hs.len w
      have h2 := hs.cells
      rcases hs.kind with ⟨e', hk⟩ | hk <;> simp [Builtin.append_, run_underlying ht, run_underlying hk, sizeOf, typeInfo, hi, hs.len, h2]
    · exact grows none 0 rfl (by omega) (run_firstCells_none w.drew i.size 0 0 0)
  · by_cases hroom : n + m ≤ cap
    · have hfit : n * i.size + news.length ≤ cur.size := by rw [hs.newsLen, hcs, ← Nat.add_mul]; exact Nat.mul_le_mul_right _ hroom
      have hcell : ∀ j, j < news.length → (w.cell? ⟨g, 0 + n * i.size + j, none⟩).isSome = true := by
        intro j hj
        rw [cell_of_row w g _ cur e (0, 0) hg]
        simp; omega
      have hr := run_append_room_src (P := P) w t tx ty e i ht hi g 0 n cap x m news hs hroom hcell (fun j _ => by simp [World.frozen?, hg])
      obtain ⟨cur', h1, h2⟩ := setCells_row g news (0 + n * i.size) w cur hg (by omega)
      refine ⟨_, _, hr, ⟨hlen, .inr ⟨g, cap, cur', rfl, hbg, h1, hroom, hcm, ?_, ?_⟩⟩, ?_, .inl rfl, by simp⟩
      · have h3 := congrArg List.length h2
        simp at h3
        omega
      · rw [h2, Nat.zero_add, htake, ← hlen]
        exact List.take_left
      · have h0 := setCells_other g (g + 1) (by omega) news (0 + n * i.size) w
        exact ⟨h0.2.2.1, h0.2.2.2.1, h0.2.2.2.2, Nat.le_of_eq h0.2.1.symm, fun k _ hk => (setCells_other g k (fun e => hk (by simp [Value.ownBlock, e])) news (0 + n * i.size) w).1⟩
    · exact grows (some ⟨g, 0, none⟩) cap rfl (by omega) (run_firstCells_some w.drew i.size n ⟨g, 0, none⟩ n cap xs hxl (by simpa using hown.cells (g := g) rfl))

theorem own_form {e : TypeId} {size n : Nat} {v : Value} {xs : List Value} (h : w.ownsRow 0 e size v n xs) : ∃ A c, v = .slice A n c := by
  rcases h.2 with ⟨rfl, rfl⟩ | ⟨g, cap, cur, rfl, _⟩
  · exact ⟨_, _, rfl⟩
  · exact ⟨_, _, rfl⟩

/-- the operation -/
theorem wp_append {o : Oper} {a : Act} {K : Act → World → Prop} {Q : Exit → Act → World → Prop} (s xo : Operand) (t tx : TypeId)
    (ho : o.op = .call { callee := .builtin .append, args := #[s, xo], argTypes := #[t, tx] })
    (e : TypeId) (i : TypeInfo) (z : Value) (size bytes : Nat) (ht : P.underlying t = some (.slice e)) (hi : P.info? e = some i) (hz : i.zero = some z)
    (hsize : i.size = size) (hby : i.bytes = bytes) (hzs : z.cells.size = size) (hsz : 0 < size)
    (v : Value) (n : Nat) (xs : List Value) (hsv : a.eval s = v) (hown : w.ownsRow 0 e size v n xs) (x : Value) (m : Nat) (news : List Value) (hxv : a.eval xo = x) (hs : Src P size tx x m news w)
    (h63 : n + m ≤ maxLen) (hbytes : (n + m) * bytes ≤ 140737488355328)
    (h : ∀ A' c' w', w'.ownsRow 0 e size (.slice A' (n + m) c') (n + m) (xs ++ news) → w.grownBy w' v.ownBlock → ((Value.slice A' (n + m) c').ownBlock = v.ownBlock ∨ (Value.slice A' (n + m) c').ownBlock = some w.heap.size) → (Value.slice A' (n + m) c' = .slice none 0 0 ↔ v = .slice none 0 0 ∧ m = 0) →
      K (a.put o.dst (.slice A' (n + m) c')) w') : o.wp P a w K Q := by
  obtain ⟨v', w', hr, h2, h3, h4, h5⟩ := append_own (P := P) w t tx o.type e i z size bytes ht hi hz hsize hby hzs hsz v n xs hown x m news hs h63 hbytes
  unfold Oper.wp execOp
  simp only [ho, resolve, invoke, builtin, Sem.run_bind, Sem.run_pure, Result.andThen_ok, List.map_toArray, List.map_cons, List.map_nil, hsv, hxv, hr]
  obtain ⟨A', c', rfl⟩ := own_form w' h2
  exact h A' c' w' h2 h3 h4 h5

/-- the same, in a list of operations -/
theorem wpList_append {ops : Array Oper} {rest : List Oper} {o : Oper} {a : Act} {Q : Exit → Act → World → Prop} (hgd : o.guard = none) (s xo : Operand) (t tx : TypeId)
    (ho : o.op = .call { callee := .builtin .append, args := #[s, xo], argTypes := #[t, tx] })
    (e : TypeId) (i : TypeInfo) (z : Value) (size bytes : Nat) (ht : P.underlying t = some (.slice e)) (hi : P.info? e = some i) (hz : i.zero = some z)
    (hsize : i.size = size) (hby : i.bytes = bytes) (hzs : z.cells.size = size) (hsz : 0 < size)
    (v : Value) (n : Nat) (xs : List Value) (hsv : a.eval s = v) (hown : w.ownsRow 0 e size v n xs) (x : Value) (m : Nat) (news : List Value) (hxv : a.eval xo = x) (hs : Src P size tx x m news w)
    (h63 : n + m ≤ maxLen) (hbytes : (n + m) * bytes ≤ 140737488355328)
    (h : ∀ A' c' w', w'.ownsRow 0 e size (.slice A' (n + m) c') (n + m) (xs ++ news) → w.grownBy w' v.ownBlock → ((Value.slice A' (n + m) c').ownBlock = v.ownBlock ∨ (Value.slice A' (n + m) c').ownBlock = some w.heap.size) → (Value.slice A' (n + m) c' = .slice none 0 0 ↔ v = .slice none 0 0 ∧ m = 0) →
      wpList P ops Q rest (a.put o.dst (.slice A' (n + m) c')) w') : wpList P ops Q (o :: rest) a w :=
  wpList_plain hgd fun _ hK => wp_append w s xo t tx ho e i z size bytes ht hi hz hsize hby hzs hsz v n xs hsv hown x m news hxv hs h63 hbytes fun A' c' w' h2 h3 h4 h5 => hK _ _ (h A' c' w' h2 h3 h4 h5)

/-- the same, in a region that draws its order -/
theorem step_append {ops : Array Oper} {o : Oper} {a : Act} {K : Act → World → Prop} {Q : Exit → Act → World → Prop} {E : Prop} (hgd : o.guard = none) (s xo : Operand) (t tx : TypeId)
    (ho : o.op = .call { callee := .builtin .append, args := #[s, xo], argTypes := #[t, tx] })
    (e : TypeId) (i : TypeInfo) (z : Value) (size bytes : Nat) (ht : P.underlying t = some (.slice e)) (hi : P.info? e = some i) (hz : i.zero = some z)
    (hsize : i.size = size) (hby : i.bytes = bytes) (hzs : z.cells.size = size) (hsz : 0 < size)
    (v : Value) (n : Nat) (xs : List Value) (hsv : a.eval s = v) (hown : w.ownsRow 0 e size v n xs) (x : Value) (m : Nat) (news : List Value) (hxv : a.eval xo = x) (hs : Src P size tx x m news w)
    (h63 : n + m ≤ maxLen) (hbytes : (n + m) * bytes ≤ 140737488355328)
    (h : ∀ A' c' w', w'.ownsRow 0 e size (.slice A' (n + m) c') (n + m) (xs ++ news) → w.grownBy w' v.ownBlock → ((Value.slice A' (n + m) c').ownBlock = v.ownBlock ∨ (Value.slice A' (n + m) c').ownBlock = some w.heap.size) → (Value.slice A' (n + m) c' = .slice none 0 0 ↔ v = .slice none 0 0 ∧ m = 0) →
      K (a.put o.dst (.slice A' (n + m) c')) w') : if Region.wanted o (yielded ops a.tmps) = true then Oper.wp P o a w K Q else E := by
  have hw : Region.wanted o (yielded ops a.tmps) = true := by simp [Region.wanted, hgd]
  rw [if_pos hw]
  exact wp_append w s xo t tx ho e i z size bytes ht hi hz hsize hby hzs hsz v n xs hsv hown x m news hxv hs h63 hbytes h
end

/-- what a slice that reads as a list yields to append -/
theorem Sl.src {P : Program} {α : Type} {E : Enc α} {w : World} {v : Value} {l : List α} {t e : TypeId} (h : Sl E w v l) (hk : P.underlying t = some (.slice e)) : Src P E.sz t v l.length (E.flat l) w := by
  obtain ⟨A, cap, rfl, h2, h3, h4⟩ := h
  by_cases h0 : l = []
  · subst h0
    rcases A with _ | ad
    · exact Src.ofNil w hk cap
    · exact Src.ofSlice w hk ad 0 cap [] (by simp) (by simp) (by simp)
  · have hpos : 0 < l.length := List.length_pos_iff.2 h0
    obtain ⟨b, off, rfl, hb, hc⟩ := h4 hpos
    refine Src.ofSlice w hk ⟨b, off, none⟩ l.length cap (E.flat l) (E.flat_len l) ?_ (E.flat_one l)
    intro j u hu
    rw [add_flat]
    have hj : j < l.length * E.sz := by rw [← E.flat_len]; exact (List.getElem?_eq_some_iff.1 hu).1
    have hdiv : j / E.sz < l.length := (Nat.div_lt_iff_lt_mul E.pos).2 hj
    have hmod : j % E.sz < E.sz := Nat.mod_lt _ E.pos
    have hx : l[j / E.sz]? = some l[j / E.sz] := List.getElem?_eq_getElem hdiv
    have hcl : (E.cells l[j / E.sz])[j % E.sz]? = some ((E.cells l[j / E.sz])[j % E.sz]'(by rw [E.len]; exact hmod)) := List.getElem?_eq_getElem _
    have e1 : j / E.sz * E.sz + j % E.sz = j := by rw [Nat.mul_comm]; exact Nat.div_add_mod j E.sz
    have h5 := E.flat_at l _ _ _ _ hx hcl
    rw [e1, hu] at h5
    injection h5 with h5
    have h6 := hc _ _ _ _ hx hcl
    rw [e1] at h6
    rw [h6, h5]

/-- one element that has just been laid into a block of its own -/
theorem src_one {P : Program} {α : Type} (E : Enc α) {w : World} {b off : Nat} {t e : TypeId} (hk : P.underlying t = some (.slice e)) (x : α) (c : Nat) (h : ∀ j u, (E.cells x)[j]? = some u → w.cell? ⟨b, off + j, none⟩ = some u) :
    Src P E.sz t (.slice (some ⟨b, off, none⟩) 1 c) 1 (E.flat [x]) w := by
  have e1 : E.flat [x] = E.cells x := by simp [Enc.flat]
  rw [e1]
  exact Src.ofSlice w hk ⟨b, off, none⟩ 1 c (E.cells x) (by rw [E.len]; omega) (fun j u hu => by rw [add_flat]; exact h j u hu) (E.one x)

end Go.Proofs.YtclmjnobacepjaaGreat

/- Plain words: measures of texts. No program in sight. -/
namespace Go.Proofs.YtclmjnobacepjaaGreat
open Go.RowKit

theorem bal {w W : World} {o : Obj} (h : Below w.heap.size w W) : Below w.heap.size w (W.alloc o) := h.alloc h.size o
theorem bdr {w W : World} (h : Below w.heap.size w W) : Below w.heap.size w W.drew := h.drew
theorem bdrN {w W : World} {n : Nat} (h : Below w.heap.size w W) : Below w.heap.size w (W.drewN n) := below_drewN h n
theorem bset {w W : World} {p : Addr} {u : Value} (h : Below w.heap.size w W) (hp : w.heap.size ≤ p.block) : Below w.heap.size w (W.setCell p u) := h.setCell hp u
theorem bcall {w W W' : World} (h : Below w.heap.size w W) (h' : Below W.heap.size W W') : Below w.heap.size w W' := h.trans (h'.mono h.size)
theorem bcallN {w W W' : World} {n : Nat} (h : Below w.heap.size w W) (h' : Below n W W') (hn : w.heap.size ≤ n) : Below w.heap.size w W' := h.trans (h'.mono hn)

/-- block b of w holds these cells, and may be written -/
def Bk (w : World) (b : Nat) (cs : Array Value) (t : TypeId) : Prop := w.heap[b]? = some (.cells cs t (0, 0))
theorem Bk.lt {w : World} {b : Nat} {cs : Array Value} {t : TypeId} (h : Bk w b cs t) : b < w.heap.size := (Array.getElem?_eq_some_iff.1 h).1
theorem Bk.new (w : World) (cs : Array Value) (t : TypeId) : Bk (w.alloc (.cells cs t)) w.heap.size cs t := heap_alloc_new w _
theorem Bk.alloc {w : World} {b : Nat} {cs : Array Value} {t : TypeId} (h : Bk w b cs t) {o : Obj} : Bk (w.alloc o) b cs t := (Below.heap_alloc w o b h.lt).trans h
theorem Bk.drew {w : World} {b : Nat} {cs : Array Value} {t : TypeId} (h : Bk w b cs t) : Bk w.drew b cs t := h
theorem Bk.drewN {w : World} {b : Nat} {cs : Array Value} {t : TypeId} (h : Bk w b cs t) (n : Nat) : Bk (w.drewN n) b cs t := h
theorem Bk.set {w : World} {b : Nat} {cs : Array Value} {t : TypeId} (h : Bk w b cs t) (j : Nat) (u : Value) : Bk (w.setCell ⟨b, j, none⟩ u) b (cs.setIfInBounds j u) t := by
  unfold Bk at *
  simp [World.setCell, Array.getElem?_modify, h]
theorem Bk.other {w : World} {b : Nat} {cs : Array Value} {t : TypeId} (h : Bk w b cs t) {p : Addr} (hp : b ≠ p.block) {u : Value} : Bk (w.setCell p u) b cs t := (Below.heap_setCell w p u b hp).trans h
theorem Bk.ext {w w' : World} {b B : Nat} {cs : Array Value} {t : TypeId} (h : Bk w b cs t) (hb : Below B w w') (hB : b < B) : Bk w' b cs t := (hb.block b hB).trans h
theorem Bk.grown {w w' : World} {b : Nat} {cs : Array Value} {t : TypeId} {row : Option Nat} (h : Bk w b cs t) (hg : w.grownBy w' row) (hne : some b ≠ row) : Bk w' b cs t := (hg.block b h.lt hne).trans h
theorem Bk.cell {w : World} {b : Nat} {cs : Array Value} {t : TypeId} (h : Bk w b cs t) (j : Nat) : w.cell? ⟨b, j, none⟩ = cs[j]? := by rw [Lib.cell_of_heap h]
theorem Bk.free {w : World} {b : Nat} {cs : Array Value} {t : TypeId} (h : Bk w b cs t) (j : Nat) : w.frozen? ⟨b, j, none⟩ = false := by
  unfold Bk at h; simp [World.frozen?, h]

theorem Bk.one {w : World} {b : Nat} {x0 : Value} {t : TypeId} (h : Bk w b #[x0] t) : w.cell? ⟨b, 0, none⟩ = some x0 ∧ w.frozen? ⟨b, 0, none⟩ = false :=
  ⟨h.cell 0, h.free 0⟩
theorem Bk.two {w : World} {b : Nat} {x0 x1 : Value} {t : TypeId} (h : Bk w b #[x0, x1] t) : w.cell? ⟨b, 0, none⟩ = some x0 ∧ w.cell? ⟨b, 1, none⟩ = some x1 ∧ w.frozen? ⟨b, 0, none⟩ = false ∧ w.frozen? ⟨b, 1, none⟩ = false :=
  ⟨h.cell 0, h.cell 1, h.free 0, h.free 1⟩
theorem Bk.three {w : World} {b : Nat} {x0 x1 x2 : Value} {t : TypeId} (h : Bk w b #[x0, x1, x2] t) : w.cell? ⟨b, 0, none⟩ = some x0 ∧ w.cell? ⟨b, 1, none⟩ = some x1 ∧ w.cell? ⟨b, 2, none⟩ = some x2 ∧ w.frozen? ⟨b, 0, none⟩ = false ∧ w.frozen? ⟨b, 1, none⟩ = false ∧ w.frozen? ⟨b, 2, none⟩ = false :=
  ⟨h.cell 0, h.cell 1, h.cell 2, h.free 0, h.free 1, h.free 2⟩
theorem Bk.four {w : World} {b : Nat} {x0 x1 x2 x3 : Value} {t : TypeId} (h : Bk w b #[x0, x1, x2, x3] t) : w.cell? ⟨b, 0, none⟩ = some x0 ∧ w.cell? ⟨b, 1, none⟩ = some x1 ∧ w.cell? ⟨b, 2, none⟩ = some x2 ∧ w.cell? ⟨b, 3, none⟩ = some x3 ∧ w.frozen? ⟨b, 0, none⟩ = false ∧ w.frozen? ⟨b, 1, none⟩ = false ∧ w.frozen? ⟨b, 2, none⟩ = false ∧ w.frozen? ⟨b, 3, none⟩ = false :=
  ⟨h.cell 0, h.cell 1, h.cell 2, h.cell 3, h.free 0, h.free 1, h.free 2, h.free 3⟩
theorem Bk.five {w : World} {b : Nat} {x0 x1 x2 x3 x4 : Value} {t : TypeId} (h : Bk w b #[x0, x1, x2, x3, x4] t) : w.cell? ⟨b, 0, none⟩ = some x0 ∧ w.cell? ⟨b, 1, none⟩ = some x1 ∧ w.cell? ⟨b, 2, none⟩ = some x2 ∧ w.cell? ⟨b, 3, none⟩ = some x3 ∧ w.cell? ⟨b, 4, none⟩ = some x4 ∧ w.frozen? ⟨b, 0, none⟩ = false ∧ w.frozen? ⟨b, 1, none⟩ = false ∧ w.frozen? ⟨b, 2, none⟩ = false ∧ w.frozen? ⟨b, 3, none⟩ = false ∧ w.frozen? ⟨b, 4, none⟩ = false :=
  ⟨h.cell 0, h.cell 1, h.cell 2, h.cell 3, h.cell 4, h.free 0, h.free 1, h.free 2, h.free 3, h.free 4⟩
theorem Bk.six {w : World} {b : Nat} {x0 x1 x2 x3 x4 x5 : Value} {t : TypeId} (h : Bk w b #[x0, x1, x2, x3, x4, x5] t) : w.cell? ⟨b, 0, none⟩ = some x0 ∧ w.cell? ⟨b, 1, none⟩ = some x1 ∧ w.cell? ⟨b, 2, none⟩ = some x2 ∧ w.cell? ⟨b, 3, none⟩ = some x3 ∧ w.cell? ⟨b, 4, none⟩ = some x4 ∧ w.cell? ⟨b, 5, none⟩ = some x5 ∧ w.frozen? ⟨b, 0, none⟩ = false ∧ w.frozen? ⟨b, 1, none⟩ = false ∧ w.frozen? ⟨b, 2, none⟩ = false ∧ w.frozen? ⟨b, 3, none⟩ = false ∧ w.frozen? ⟨b, 4, none⟩ = false ∧ w.frozen? ⟨b, 5, none⟩ = false :=
  ⟨h.cell 0, h.cell 1, h.cell 2, h.cell 3, h.cell 4, h.cell 5, h.free 0, h.free 1, h.free 2, h.free 3, h.free 4, h.free 5⟩
theorem Bk.seven {w : World} {b : Nat} {x0 x1 x2 x3 x4 x5 x6 : Value} {t : TypeId} (h : Bk w b #[x0, x1, x2, x3, x4, x5, x6] t) : w.cell? ⟨b, 0, none⟩ = some x0 ∧ w.cell? ⟨b, 1, none⟩ = some x1 ∧ w.cell? ⟨b, 2, none⟩ = some x2 ∧ w.cell? ⟨b, 3, none⟩ = some x3 ∧ w.cell? ⟨b, 4, none⟩ = some x4 ∧ w.cell? ⟨b, 5, none⟩ = some x5 ∧ w.cell? ⟨b, 6, none⟩ = some x6 ∧ w.frozen? ⟨b, 0, none⟩ = false ∧ w.frozen? ⟨b, 1, none⟩ = false ∧ w.frozen? ⟨b, 2, none⟩ = false ∧ w.frozen? ⟨b, 3, none⟩ = false ∧ w.frozen? ⟨b, 4, none⟩ = false ∧ w.frozen? ⟨b, 5, none⟩ = false ∧ w.frozen? ⟨b, 6, none⟩ = false :=
  ⟨h.cell 0, h.cell 1, h.cell 2, h.cell 3, h.cell 4, h.cell 5, h.cell 6, h.free 0, h.free 1, h.free 2, h.free 3, h.free 4, h.free 5, h.free 6⟩

def beginsB (c : UInt8) : Bool := decide ((c.toNat : Int) < 128) || decide (191 < (c.toNat : Int))
def feedsB (c : UInt8) : Bool := (c.toNat : Int) == 10
def everyB (_ : UInt8) : Bool := true
def cntB (p : UInt8 → Bool) (l : List UInt8) : Nat := (l.filter p).length

theorem cntB_append (p : UInt8 → Bool) (a b : List UInt8) : cntB p (a ++ b) = cntB p a + cntB p b := by simp [cntB]
theorem cntB_le (p : UInt8 → Bool) (a : List UInt8) : cntB p a ≤ a.length := List.length_filter_le _ _
theorem cntB_every (a : List UInt8) : cntB everyB a = a.length := by simp [cntB, everyB]
theorem cntB_mono {p q : UInt8 → Bool} (h : ∀ c, p c = true → q c = true) (a : List UInt8) : cntB p a ≤ cntB q a := by
  induction a with
  | nil => simp [cntB]
  | cons c l ih =>
    unfold cntB at *
    rw [List.filter_cons, List.filter_cons]
    cases hp : p c
    · cases hq : q c <;> simp <;> omega
    · rw [h c hp]; simp; exact ih
theorem cntB_take (p : UInt8 → Bool) (l : List UInt8) (k : Nat) (h : k < l.length) : cntB p (l.take (k + 1)) = cntB p (l.take k) + if p l[k] = true then 1 else 0 := by
  rw [List.take_succ_eq_append_getElem h, cntB_append]
  congr 1
  unfold cntB
  cases hp : p l[k] <;> simp [hp]

/-- a measure -/
structure Ms where
  b : Nat
  r : Nat
  n : Nat
def Ms.v (m : Ms) : Value := .agg #[.int .i64 m.b, .int .i64 m.r, .int .i64 m.n]
def meas (T : List UInt8) : Ms := ⟨T.length, cntB beginsB T, cntB feedsB T⟩
theorem meas_b (T : List UInt8) : (meas T).b = T.length := rfl
theorem meas_rb (T : List UInt8) : (meas T).r ≤ (meas T).b := cntB_le _ _
theorem meas_nr (T : List UInt8) : (meas T).n ≤ (meas T).r := cntB_mono (fun c h => by unfold feedsB at h; unfold beginsB; simp at h; simp [h]) T
def Ms.add (a b : Ms) : Ms := ⟨a.b + b.b, a.r + b.r, a.n + b.n⟩
theorem meas_append (S T : List UInt8) : meas (S ++ T) = (meas S).add (meas T) := by simp [meas, Ms.add, cntB_append]
def sumM (l : List Ms) : Ms := l.foldl Ms.add ⟨0, 0, 0⟩
theorem meas_flat (l : List (List UInt8)) : ∀ a : List UInt8, (l.map meas).foldl Ms.add (meas a) = meas (a ++ l.flatten) := by
  induction l with
  | nil => intro a; simp
  | cons T l ih => intro a; rw [List.map_cons, List.foldl_cons, ← meas_append, ih, List.flatten_cons, List.append_assoc]
theorem sumM_meas (l : List (List UInt8)) : sumM (l.map meas) = meas l.flatten := by
  have := meas_flat l []
  rw [List.nil_append] at this; exact this
def msE : Enc Ms := ⟨3, by decide, fun m => [.int .i64 m.b, .int .i64 m.r, .int .i64 m.n], fun _ => rfl, by intro x u h; simp at h; rcases h with rfl | rfl | rfl <;> rfl⟩

theorem Sl.ms {w : World} {v : Value} {l : List Ms} (h : Sl msE w v l) {k : Nat} (hk : k < l.length) :
    ∃ b off cap, v = .slice (some ⟨b, off, none⟩) l.length cap ∧ b < w.heap.size ∧ ∀ w', Below w.heap.size w w' → w'.cell? ⟨b, off + k * 3, none⟩ = some (.int .i64 l[k].b) ∧ w'.cell? ⟨b, off + k * 3 + 1, none⟩ = some (.int .i64 l[k].r) ∧ w'.cell? ⟨b, off + k * 3 + 2, none⟩ = some (.int .i64 l[k].n) := by
  obtain ⟨A, cap, rfl, h2, h3, h4⟩ := h
  obtain ⟨b, off, rfl, hb, hc⟩ := h4 (by omega)
  have hx : l[k]? = some l[k] := List.getElem?_eq_getElem hk
  exact ⟨b, off, cap, rfl, hb, fun w' hb' => ⟨(hb'.cell (p := ⟨b, _, none⟩) hb).trans (hc k 0 _ _ hx rfl), (hb'.cell (p := ⟨b, _, none⟩) hb).trans (hc k 1 _ _ hx rfl), (hb'.cell (p := ⟨b, _, none⟩) hb).trans (hc k 2 _ _ hx rfl)⟩⟩

end Go.Proofs.YtclmjnobacepjaaGreat
