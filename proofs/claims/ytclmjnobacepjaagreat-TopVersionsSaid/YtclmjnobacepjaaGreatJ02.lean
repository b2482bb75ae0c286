/- Go's == and != at the structs and the array of this program. No condition. -/
import Derived.Test.YtclmjnobacepjaaGreatJ01
import Derived.LoopN
import Derived.Laws.StructEq
import Derived.Laws.IdiomStrings
import Derived.Lib.BufferRead
import Derived.IntWalk
import Derived.Outline
import Derived.Deep.CutBlock
import Derived.Maps.OwnSet
import Derived.Maps.RangeWalk
namespace Go.Proofs.YtclmjnobacepjaaGreat
open Go.RowKit
theorem eqMs (d : Nat) (a b c a' b' c' : Int) (w : World) : (Op.equalIn (d + 1 + 1) 37 (.agg #[.int .i64 a, .int .i64 b, .int .i64 c]) (.agg #[.int .i64 a', .int .i64 b', .int .i64 c'])).run Tryz.prog w = .ok (decide (a = a') && (decide (b = b') && decide (c = c'))) w := by
  rw [run_equalIn_struct w _ _ _ _ (by kernel_rfl) (by kernel_rfl)]
  by_cases h1 : a = a' <;> by_cases h2 : b = b' <;> by_cases h3 : c = c' <;> simp [Program.fieldsOf, Tryz.underlying37, Op.eqFields, go_sem, part, Tryz.underlying3, h1, h2, h3]
theorem eqMs_eql (a b c a' b' c' : Int) (w : World) : (binOp .eql 37 (.agg #[.int .i64 a, .int .i64 b, .int .i64 c]) (.agg #[.int .i64 a', .int .i64 b', .int .i64 c'])).run Tryz.prog w = .ok (.bool (decide (a = a') && (decide (b = b') && decide (c = c')))) w := by
  simp [binOp, Op.equal, go_sem, show Op.maxDepth = 9998 + 1 + 1 from rfl, eqMs]
theorem eqMs_neq (a b c a' b' c' : Int) (w : World) : (binOp .neq 37 (.agg #[.int .i64 a, .int .i64 b, .int .i64 c]) (.agg #[.int .i64 a', .int .i64 b', .int .i64 c'])).run Tryz.prog w = .ok (.bool !(decide (a = a') && (decide (b = b') && decide (c = c')))) w := by
  simp [binOp, Op.equal, go_sem, show Op.maxDepth = 9998 + 1 + 1 from rfl, eqMs]
theorem eqCn (a b c a' b' c' : Int) (w : World) : (binOp .eql 200 (.agg #[.int .i64 a, .int .i64 b, .int .i64 c]) (.agg #[.int .i64 a', .int .i64 b', .int .i64 c'])).run Tryz.prog w = .ok (.bool (decide (a = a') && (decide (b = b') && decide (c = c')))) w := by
  have hs : (sizeOf 3).run Tryz.prog w = .ok 1 w := by kernel_rfl
  have hi : (isAgg 3).run Tryz.prog w = .ok false w := by kernel_rfl
  have h1 : (Op.equal 200 (.agg #[.int .i64 a, .int .i64 b, .int .i64 c]) (.agg #[.int .i64 a', .int .i64 b', .int .i64 c'])).run Tryz.prog w = .ok (decide (a = a') && (decide (b = b') && decide (c = c'))) w := by
    unfold Op.equal
    rw [show Op.maxDepth = 9998 + 1 + 1 from rfl, Op.equalIn]
    by_cases h1 : a = a' <;> by_cases h2 : b = b' <;> by_cases h3 : c = c' <;> simp [Tryz.underlying200, run_underlying, go_sem, hs, hi, part, Tryz.underlying3, h1, h2, h3, List.range', List.forIn_cons]
  simp [binOp, go_sem, h1]
theorem eqRt (h k a b c : Int) (h' k' a' b' c' : Int) (w : World) : (binOp .eql 39 (.agg #[.int .u64 h, .int .i64 k, .int .i64 a, .int .i64 b, .int .i64 c]) (.agg #[.int .u64 h', .int .i64 k', .int .i64 a', .int .i64 b', .int .i64 c'])).run Tryz.prog w = .ok (.bool (decide (h = h') && (decide (k = k') && (decide (a = a') && (decide (b = b') && decide (c = c')))))) w := by
  have h1 : (Op.equal 39 (.agg #[.int .u64 h, .int .i64 k, .int .i64 a, .int .i64 b, .int .i64 c]) (.agg #[.int .u64 h', .int .i64 k', .int .i64 a', .int .i64 b', .int .i64 c'])).run Tryz.prog w = .ok (decide (h = h') && (decide (k = k') && (decide (a = a') && (decide (b = b') && decide (c = c'))))) w := by
    unfold Op.equal
    have hs : (sizeOf 37).run Tryz.prog w = .ok 3 w := by kernel_rfl
    have hi : (isAgg 37).run Tryz.prog w = .ok true w := by kernel_rfl
    have hi2 : (isAgg 3).run Tryz.prog w = .ok false w := by kernel_rfl
    have hi3 : (isAgg 35).run Tryz.prog w = .ok false w := by kernel_rfl
    rw [show Op.maxDepth = 9996 + 1 + 1 + 1 + 1 from rfl, run_equalIn_struct w _ _ _ _ (by kernel_rfl) (by kernel_rfl)]
    have hm := eqMs 9997 a b c a' b' c' w
    by_cases h1 : h = h' <;> by_cases h2 : k = k' <;> simp [Program.fieldsOf, Tryz.underlying39, Op.eqFields, go_sem, part, hs, hi, hi2, hi3, Tryz.underlying3, Tryz.underlying35, h1, h2]
    · by_cases h3 : a = a' <;> by_cases h4 : b = b' <;> by_cases h5 : c = c' <;> simp [h3, h4, h5] at hm ⊢ <;> simp [hm]
  simp [binOp, go_sem, h1]
end Go.Proofs.YtclmjnobacepjaaGreat

/- Memory words of this seat: append onto a row of the call's own, strings' parts, new rows, elements of this program's types. No condition but sizes. -/
namespace Go.Proofs.YtclmjnobacepjaaGreat
open Go.RowKit

theorem own_base {w : World} {e : TypeId} {size n B : Nat} {v : Value} {xs : List Value} (h : w.ownsRow 0 e size v n xs) (hb : ∀ g, v.ownBlock = some g → B ≤ g) : w.ownsRow B e size v n xs := by
  refine ⟨h.1, ?_⟩
  rcases h.2 with h0 | ⟨g, cap, cur, rfl, _, hg, rest⟩
  · exact .inl h0
  · exact .inr ⟨g, cap, cur, rfl, hb g rfl, hg, rest⟩

theorem own_zero {w : World} {e : TypeId} {size n B : Nat} {v : Value} {xs : List Value} (h : w.ownsRow B e size v n xs) : w.ownsRow 0 e size v n xs := by
  refine ⟨h.1, ?_⟩
  rcases h.2 with h0 | ⟨g, cap, cur, rfl, _, hg, rest⟩
  · exact .inl h0
  · exact .inr ⟨g, cap, cur, rfl, Nat.zero_le _, hg, rest⟩

section
variable {P : Program} (w : World)

theorem append_ownB (base : Nat) (hbase : base ≤ w.heap.size) (t tx ty e : TypeId) (i : TypeInfo) (z : Value) (size bytes : Nat) (ht : P.underlying t = some (.slice e)) (hi : P.info? e = some i) (hz : i.zero = some z)
    (hsize : i.size = size) (hby : i.bytes = bytes) (hzs : z.cells.size = size) (hsz : 0 < size)
    (v : Value) (n : Nat) (xs : List Value) (hown : w.ownsRow base e size v n xs) (x : Value) (m : Nat) (news : List Value) (hs : Src P size tx x m news w)
    (h63 : n + m ≤ maxLen) (hbytes : (n + m) * bytes ≤ 140737488355328) :
    ∃ v' w', (Builtin.append_ #[t, tx] ty #[v, x]).run P w = .ok v' w' ∧ w'.ownsRow base e size v' (n + m) (xs ++ news) ∧ w.grownBy w' v.ownBlock ∧
      (v'.ownBlock = v.ownBlock ∨ v'.ownBlock = some w.heap.size) ∧ (v' = .slice none 0 0 ↔ v = .slice none 0 0 ∧ m = 0) := by
  obtain ⟨v', w', h1, h2, h3, h4, h5⟩ := append_own (P := P) w t tx ty e i z size bytes ht hi hz hsize hby hzs hsz v n xs (own_zero hown) x m news hs h63 hbytes
  refine ⟨v', w', h1, own_base h2 (fun g hg => ?_), h3, h4, h5⟩
  rcases h4 with e4 | e4
  · exact (hown.lt g (e4.symm.trans hg)).1
  · have h9 := e4.symm.trans hg
    injection h9 with h9
    omega

/-- the operation -/
theorem wpB_append {o : Oper} {a : Act} {K : Act → World → Prop} {Q : Exit → Act → World → Prop} (s xo : Operand) (t tx : TypeId)
    (ho : o.op = .call { callee := .builtin .append, args := #[s, xo], argTypes := #[t, tx] })
    (base : Nat) (hbase : base ≤ w.heap.size) (e : TypeId) (i : TypeInfo) (z : Value) (size bytes : Nat) (ht : P.underlying t = some (.slice e)) (hi : P.info? e = some i) (hz : i.zero = some z)
    (hsize : i.size = size) (hby : i.bytes = bytes) (hzs : z.cells.size = size) (hsz : 0 < size)
    (v : Value) (n : Nat) (xs : List Value) (hsv : a.eval s = v) (hown : w.ownsRow base e size v n xs) (x : Value) (m : Nat) (news : List Value) (hxv : a.eval xo = x) (hs : Src P size tx x m news w)
    (h63 : n + m ≤ maxLen) (hbytes : (n + m) * bytes ≤ 140737488355328)
    (h : ∀ A' c' w', w'.ownsRow base e size (.slice A' (n + m) c') (n + m) (xs ++ news) → w.grownBy w' v.ownBlock → ((Value.slice A' (n + m) c').ownBlock = v.ownBlock ∨ (Value.slice A' (n + m) c').ownBlock = some w.heap.size) → (Value.slice A' (n + m) c' = .slice none 0 0 ↔ v = .slice none 0 0 ∧ m = 0) →
      K (a.put o.dst (.slice A' (n + m) c')) w') : o.wp P a w K Q := by
  obtain ⟨v', w', hr, h2, h3, h4, h5⟩ := append_ownB (P := P) w base hbase t tx o.type e i z size bytes ht hi hz hsize hby hzs hsz v n xs hown x m news hs h63 hbytes
  unfold Oper.wp execOp
  simp only [ho, resolve, invoke, builtin, Sem.run_bind, Sem.run_pure, Result.andThen_ok, List.map_toArray, List.map_cons, List.map_nil, hsv, hxv, hr]
  obtain ⟨A', c', rfl⟩ := own_form w' (own_zero h2)
  exact h A' c' w' h2 h3 h4 h5

/-- the same, in a list of operations -/
theorem wpListB_append {ops : Array Oper} {rest : List Oper} {o : Oper} {a : Act} {Q : Exit → Act → World → Prop} (hgd : o.guard = none) (s xo : Operand) (t tx : TypeId)
    (ho : o.op = .call { callee := .builtin .append, args := #[s, xo], argTypes := #[t, tx] })
    (base : Nat) (hbase : base ≤ w.heap.size) (e : TypeId) (i : TypeInfo) (z : Value) (size bytes : Nat) (ht : P.underlying t = some (.slice e)) (hi : P.info? e = some i) (hz : i.zero = some z)
    (hsize : i.size = size) (hby : i.bytes = bytes) (hzs : z.cells.size = size) (hsz : 0 < size)
    (v : Value) (n : Nat) (xs : List Value) (hsv : a.eval s = v) (hown : w.ownsRow base e size v n xs) (x : Value) (m : Nat) (news : List Value) (hxv : a.eval xo = x) (hs : Src P size tx x m news w)
    (h63 : n + m ≤ maxLen) (hbytes : (n + m) * bytes ≤ 140737488355328)
    (h : ∀ A' c' w', w'.ownsRow base e size (.slice A' (n + m) c') (n + m) (xs ++ news) → w.grownBy w' v.ownBlock → ((Value.slice A' (n + m) c').ownBlock = v.ownBlock ∨ (Value.slice A' (n + m) c').ownBlock = some w.heap.size) → (Value.slice A' (n + m) c' = .slice none 0 0 ↔ v = .slice none 0 0 ∧ m = 0) →
      wpList P ops Q rest (a.put o.dst (.slice A' (n + m) c')) w') : wpList P ops Q (o :: rest) a w :=
  wpList_plain hgd fun _ hK => wpB_append w s xo t tx ho base hbase e i z size bytes ht hi hz hsize hby hzs hsz v n xs hsv hown x m news hxv hs h63 hbytes fun A' c' w' h2 h3 h4 h5 => hK _ _ (h A' c' w' h2 h3 h4 h5)

/-- the same, in a region that draws its order -/
theorem stepB_append {ops : Array Oper} {o : Oper} {a : Act} {K : Act → World → Prop} {Q : Exit → Act → World → Prop} {E : Prop} (hgd : o.guard = none) (s xo : Operand) (t tx : TypeId)
    (ho : o.op = .call { callee := .builtin .append, args := #[s, xo], argTypes := #[t, tx] })
    (base : Nat) (hbase : base ≤ w.heap.size) (e : TypeId) (i : TypeInfo) (z : Value) (size bytes : Nat) (ht : P.underlying t = some (.slice e)) (hi : P.info? e = some i) (hz : i.zero = some z)
    (hsize : i.size = size) (hby : i.bytes = bytes) (hzs : z.cells.size = size) (hsz : 0 < size)
    (v : Value) (n : Nat) (xs : List Value) (hsv : a.eval s = v) (hown : w.ownsRow base e size v n xs) (x : Value) (m : Nat) (news : List Value) (hxv : a.eval xo = x) (hs : Src P size tx x m news w)
    (h63 : n + m ≤ maxLen) (hbytes : (n + m) * bytes ≤ 140737488355328)
    (h : ∀ A' c' w', w'.ownsRow base e size (.slice A' (n + m) c') (n + m) (xs ++ news) → w.grownBy w' v.ownBlock → ((Value.slice A' (n + m) c').ownBlock = v.ownBlock ∨ (Value.slice A' (n + m) c').ownBlock = some w.heap.size) → (Value.slice A' (n + m) c' = .slice none 0 0 ↔ v = .slice none 0 0 ∧ m = 0) →
      K (a.put o.dst (.slice A' (n + m) c')) w') : if Region.wanted o (yielded ops a.tmps) = true then Oper.wp P o a w K Q else E := by
  have hw : Region.wanted o (yielded ops a.tmps) = true := by simp [Region.wanted, hgd]
  rw [if_pos hw]
  exact wpB_append w s xo t tx ho base hbase e i z size bytes ht hi hz hsize hby hzs hsz v n xs hsv hown x m news hxv hs h63 hbytes h
end

/-- rows of different types do not share a block -/
theorem rows_ne {w : World} {B C : Nat} {e e' : TypeId} {s s' n n' : Nat} {v v' : Value} {xs xs' : List Value} (h : w.ownsRow B e s v n xs) (h' : w.ownsRow C e' s' v' n' xs') (hn : e ≠ e') : v.ownBlock = none ∨ v.ownBlock ≠ v'.ownBlock := by
  rcases h.2 with ⟨rfl, _⟩ | ⟨g, cap, cur, rfl, _, hg, _⟩
  · exact .inl rfl
  · refine .inr fun he => ?_
    rcases h'.2 with ⟨rfl, _⟩ | ⟨g', cap', cur', rfl, _, hg', _⟩
    · cases he
    · have h9 : some g = some g' := he
      injection h9 with h9
      subst h9
      rw [hg] at hg'
      injection hg' with hg'
      injection hg' with _ hg'
      exact hn hg'

/-- an owned row while another one is appended to -/
theorem own_other {w w' : World} {B C : Nat} {e e' : TypeId} {s s' n n' : Nat} {v v' : Value} {xs xs' : List Value} (h : w.ownsRow B e s v n xs) (h' : w.ownsRow C e' s' v' n' xs') (hn : e ≠ e') (hg : w.grownBy w' v'.ownBlock) : w'.ownsRow B e s v n xs :=
  h.kept hg (rows_ne h h' hn)


theorem new_cells {α : Type} {E : Enc α} (w : World) (x : α) (t : TypeId) : ∀ j u, (E.cells x)[j]? = some u → (w.alloc (.cells (E.cells x).toArray t)).cell? ⟨w.heap.size, 0 + j, none⟩ = some u := by
  intro j u hu
  rw [Lib.cell_of_heap (heap_alloc_new w _), Nat.zero_add]
  simpa using hu
theorem new_cells2 {α : Type} {E : Enc α} (w : World) (o : Obj) (x : α) (t : TypeId) : ∀ j u, (E.cells x)[j]? = some u → ((w.alloc o).alloc (.cells (E.cells x).toArray t)).cell? ⟨w.heap.size + 1, 0 + j, none⟩ = some u := by
  intro j u hu
  have := new_cells (w.alloc o) x t j u hu
  rwa [World.size_alloc] at this
theorem new_cells_at {α : Type} {E : Enc α} (w : World) (n : Nat) (hn : w.heap.size = n) (x : α) (t : TypeId) : ∀ j u, (E.cells x)[j]? = some u → (w.alloc (.cells (E.cells x).toArray t)).cell? ⟨n, 0 + j, none⟩ = some u := by
  subst hn
  exact new_cells w x t

theorem ext_str (s : List UInt8) (a b : Nat) : (⟨s.toArray⟩ : ByteArray).extract a b = ⟨((s.take b).drop a).toArray⟩ := by
  have h : ((⟨s.toArray⟩ : ByteArray).extract a b).data = s.toArray.extract a b := by simp [ByteArray.extract, ByteArray.copySlice]
  have h2 : (⟨s.toArray⟩ : ByteArray).extract a b = ⟨((⟨s.toArray⟩ : ByteArray).extract a b).data⟩ := rfl
  rw [h2, h]
  simp [List.drop_take]
theorem ext_take (s : List UInt8) (m : Nat) : (⟨s.toArray⟩ : ByteArray).extract 0 m = ⟨(s.take m).toArray⟩ := by rw [ext_str]; simp
theorem ext_drop (s : List UInt8) (m : Nat) : (⟨s.toArray⟩ : ByteArray).extract m s.length = ⟨(s.drop m).toArray⟩ := by rw [ext_str]; simp

def intE : Enc Nat := ⟨1, by decide, fun i => [.int .i64 i], fun _ => rfl, by intro x u h; simp at h; subst h; rfl⟩
def hndE : Enc Nat := ⟨1, by decide, fun i => [.int .u64 i], fun _ => rfl, by intro x u h; simp at h; subst h; rfl⟩
def strE : Enc (List UInt8) := ⟨1, by decide, fun s => [.string ⟨s.toArray⟩], fun _ => rfl, by intro x u h; simp at h; subst h; rfl⟩

theorem Sl.at1 {α : Type} {E : Enc α} (f : α → Value) (h1 : E.sz = 1) (hf : ∀ x, E.cells x = [f x]) {w : World} {v : Value} {l : List α} (h : Sl E w v l) {k : Nat} (hk : k < l.length) :
    ∃ b off cap, v = .slice (some ⟨b, off, none⟩) l.length cap ∧ b < w.heap.size ∧ ∀ w', Below w.heap.size w w' → w'.cell? ⟨b, off + k, none⟩ = some (f l[k]) := by
  obtain ⟨A, cap, rfl, h2, h3, h4⟩ := h
  obtain ⟨b, off, rfl, hb, hc⟩ := h4 (by omega)
  have hx : l[k]? = some l[k] := List.getElem?_eq_getElem hk
  refine ⟨b, off, cap, rfl, hb, fun w' hb' => ?_⟩
  have := hc k 0 _ (f l[k]) hx (by rw [hf]; rfl)
  rw [h1, Nat.mul_one, Nat.add_zero] at this
  exact (hb'.cell (p := ⟨b, _, none⟩) hb).trans this
theorem Sl.int {w : World} {v : Value} {l : List Nat} (h : Sl intE w v l) {k : Nat} (hk : k < l.length) :
    ∃ b off cap, v = .slice (some ⟨b, off, none⟩) l.length cap ∧ b < w.heap.size ∧ ∀ w', Below w.heap.size w w' → w'.cell? ⟨b, off + k, none⟩ = some (.int .i64 (l[k] : Nat)) := h.at1 (fun i : Nat => .int .i64 i) rfl (fun _ => rfl) hk
theorem Sl.hnd {w : World} {v : Value} {l : List Nat} (h : Sl hndE w v l) {k : Nat} (hk : k < l.length) :
    ∃ b off cap, v = .slice (some ⟨b, off, none⟩) l.length cap ∧ b < w.heap.size ∧ ∀ w', Below w.heap.size w w' → w'.cell? ⟨b, off + k, none⟩ = some (.int .u64 (l[k] : Nat)) := h.at1 (fun i : Nat => .int .u64 i) rfl (fun _ => rfl) hk
theorem Sl.str {w : World} {v : Value} {l : List (List UInt8)} (h : Sl strE w v l) {k : Nat} (hk : k < l.length) :
    ∃ b off cap, v = .slice (some ⟨b, off, none⟩) l.length cap ∧ b < w.heap.size ∧ ∀ w', Below w.heap.size w w' → w'.cell? ⟨b, off + k, none⟩ = some (.string ⟨(l[k]).toArray⟩) := h.at1 (fun s => .string ⟨s.toArray⟩) rfl (fun _ => rfl) hk

theorem infoInt : (Tryz.prog.info? 3).map (fun i => (i.zero, i.size, i.bytes)) = some (some (.int .i64 0), 1, 8) := by kernel_rfl
theorem infoHnd : (Tryz.prog.info? 35).map (fun i => (i.zero, i.size, i.bytes)) = some (some (.int .u64 0), 1, 8) := by kernel_rfl
theorem infoStr : (Tryz.prog.info? 9).map (fun i => (i.zero, i.size, i.bytes)) = some (some (.string ⟨#[]⟩), 1, 16) := by kernel_rfl
theorem infoMs : (Tryz.prog.info? 37).map (fun i => (i.zero, i.size, i.bytes)) = some (some (.agg #[.int .i64 0, .int .i64 0, .int .i64 0]), 3, 24) := by kernel_rfl

/-- a list of the row's own, lying from block B on -/
def Ow {α : Type} (E : Enc α) (w : World) (B : Nat) (e : TypeId) (v : Value) (l : List α) : Prop := w.ownsRow B e E.sz v l.length (E.flat l)
theorem Ow.sl {α : Type} {E : Enc α} {w : World} {B : Nat} {e : TypeId} {v : Value} {l : List α} (h : Ow E w B e v l) : Sl E w v l := Sl.of_own h
theorem Ow.alloc {α : Type} {E : Enc α} {w : World} {B : Nat} {e : TypeId} {v : Value} {l : List α} (h : Ow E w B e v l) (o : Obj) : Ow E (w.alloc o) B e v l := World.ownsRow.alloc h o
theorem Ow.drew {α : Type} {E : Enc α} {w : World} {B : Nat} {e : TypeId} {v : Value} {l : List α} (h : Ow E w B e v l) : Ow E w.drew B e v l := h
theorem Ow.drewN {α : Type} {E : Enc α} {w : World} {B : Nat} {e : TypeId} {v : Value} {l : List α} (h : Ow E w B e v l) (n : Nat) : Ow E (w.drewN n) B e v l := h
theorem Ow.nil {α : Type} (E : Enc α) (w : World) (B : Nat) (e : TypeId) : Ow E w B e (.slice none 0 0) [] := World.ownsRow_nil w B e E.sz
theorem Ow.base {α : Type} {E : Enc α} {w : World} {B B' : Nat} {e : TypeId} {v : Value} {l : List α} (h : Ow E w B e v l) (hB : B' ≤ B) : Ow E w B' e v l :=
  own_base (own_zero h) (fun g hg => Nat.le_trans hB (World.ownsRow.lt h g hg).1)
theorem Ow.form {α : Type} {E : Enc α} {w : World} {B : Nat} {e : TypeId} {v : Value} {l : List α} (h : Ow E w B e v l) : ∃ A c, v = .slice A l.length c := own_form w (own_zero h)
theorem Ow.lt {α : Type} {E : Enc α} {w : World} {B : Nat} {e : TypeId} {v : Value} {l : List α} (h : Ow E w B e v l) : ∀ k, v.ownBlock = some k → B ≤ k ∧ k < w.heap.size := World.ownsRow.lt h
theorem Ow.kept {α : Type} {E : Enc α} {w w' : World} {B : Nat} {e : TypeId} {v : Value} {l : List α} (h : Ow E w B e v l) (hk : ∀ k, v.ownBlock = some k → w'.heap[k]? = w.heap[k]?) : Ow E w' B e v l := by
  refine ⟨h.1, ?_⟩
  rcases h.2 with h0 | ⟨g, cap, cur, rfl, hb, hg, rest⟩
  · exact .inl h0
  · exact .inr ⟨g, cap, cur, rfl, hb, (hk g rfl).trans hg, rest⟩
theorem Ow.ext {α : Type} {E : Enc α} {w w' : World} {B n : Nat} {e : TypeId} {v : Value} {l : List α} (h : Ow E w B e v l) (hb : Below n w w') (hn : w.heap.size ≤ n) : Ow E w' B e v l :=
  h.kept fun k hk => hb.block k (Nat.lt_of_lt_of_le (h.lt k hk).2 hn)
theorem Ow.set {α : Type} {E : Enc α} {w : World} {B : Nat} {e : TypeId} {v : Value} {l : List α} (h : Ow E w B e v l) {p : Addr} (hp : p.block < B) (u : Value) : Ow E (w.setCell p u) B e v l :=
  h.kept fun k hk => Below.heap_setCell w p u k (fun e => by have := (h.lt k hk).1; omega)

/-- slices of type t have elements of type e, laid as E says -/
def EOK {α : Type} (E : Enc α) (t e : TypeId) : Prop := Tryz.prog.underlying t = some (.slice e) ∧ ∃ i z, Tryz.prog.info? e = some i ∧ i.zero = some z ∧ i.size = E.sz ∧ z.cells.size = E.sz ∧ i.bytes ≤ 1000
theorem EOK.mk' {α : Type} {E : Enc α} {t e : TypeId} {z : Value} {n m : Nat} (h : Tryz.prog.underlying t = some (.slice e)) (hi : (Tryz.prog.info? e).map (fun i => (i.zero, i.size, i.bytes)) = some (some z, n, m)) (hn : n = E.sz) (hz : z.cells.size = n) (hm : m ≤ 1000) : EOK E t e := by
  obtain ⟨i0, hi, hz0, hz1, hz2⟩ := info_parts hi
  exact ⟨h, i0, z, hi, hz0, hz1.trans hn, hz.trans hn, by omega⟩
theorem intOK : EOK intE 95 3 := EOK.mk' Tryz.underlying95 infoInt rfl rfl (by omega)
theorem hndOK : EOK hndE 43 35 := EOK.mk' Tryz.underlying43 infoHnd rfl rfl (by omega)
theorem strOK : EOK strE 70 9 := EOK.mk' Tryz.underlying70 infoStr rfl rfl (by omega)
theorem msOK : EOK msE 182 37 := EOK.mk' Tryz.underlying182 infoMs rfl rfl (by omega)

section
variable {α : Type} {E : Enc α} {t e : TypeId} (w : World) {ops : Array Oper} {rest : List Oper} {o : Oper} {a : Act} {Q : Exit → Act → World → Prop}

/-- append of a slice that reads as l2 onto a row of the call's own -/
theorem wpOwS (K : EOK E t e) (hgd : o.guard = none) (s xo : Operand) (ho : o.op = .call { callee := .builtin .append, args := #[s, xo], argTypes := #[t, t] })
    (B : Nat) (hB : B ≤ w.heap.size) (v : Value) (l : List α) (hsv : a.eval s = v) (hown : Ow E w B e v l) (x : Value) (l2 : List α) (hxv : a.eval xo = x) (hx : Sl E w x l2) (hl : l.length + l2.length ≤ 1000000)
    (h : ∀ A' c' w', Ow E w' B e (.slice A' (l.length + l2.length) c') (l ++ l2) → w.grownBy w' v.ownBlock → (Value.slice A' (l.length + l2.length) c' = .slice none 0 0 ↔ v = .slice none 0 0 ∧ l2.length = 0) → wpList Tryz.prog ops Q rest (a.put o.dst (.slice A' (l.length + l2.length) c')) w') :
    wpList Tryz.prog ops Q (o :: rest) a w := by
  obtain ⟨ht, i, z, hi, hz, hs, hzs, hby⟩ := K
  have hbb : (l.length + l2.length) * i.bytes ≤ 140737488355328 := Nat.le_trans (Nat.mul_le_mul hl hby) (by omega)
  refine wpListB_append w hgd s xo t t ho B hB e i z E.sz i.bytes ht hi hz hs rfl hzs E.pos v l.length (E.flat l) hsv hown x l2.length (E.flat l2) hxv (hx.src ht) (by unfold maxLen; omega) hbb ?_
  intro A' c' w' h1 h2 _ h4
  refine h A' c' w' ?_ h2 h4
  unfold Ow
  rw [List.length_append, E.flat_append]
  exact h1

/-- append of one element that has just been laid into a block of its own -/
theorem wpOw1 (K : EOK E t e) (hgd : o.guard = none) (s xo : Operand) (ho : o.op = .call { callee := .builtin .append, args := #[s, xo], argTypes := #[t, t] })
    (B : Nat) (hB : B ≤ w.heap.size) (v : Value) (l : List α) (hsv : a.eval s = v) (hown : Ow E w B e v l) (x : α) (b c : Nat) (hxv : a.eval xo = .slice (some ⟨b, 0, none⟩) 1 c) (hx : ∀ j u, (E.cells x)[j]? = some u → w.cell? ⟨b, 0 + j, none⟩ = some u) (hl : l.length ≤ 999999)
    (h : ∀ A' c' w', Ow E w' B e (.slice A' (l.length + 1) c') (l ++ [x]) → w.grownBy w' v.ownBlock → wpList Tryz.prog ops Q rest (a.put o.dst (.slice A' (l.length + 1) c')) w') :
    wpList Tryz.prog ops Q (o :: rest) a w := by
  obtain ⟨ht, i, z, hi, hz, hs, hzs, hby⟩ := K
  have hbb : (l.length + 1) * i.bytes ≤ 140737488355328 := Nat.le_trans (Nat.mul_le_mul (show l.length + 1 ≤ 1000000 by omega) hby) (by omega)
  refine wpListB_append w hgd s xo t t ho B hB e i z E.sz i.bytes ht hi hz hs rfl hzs E.pos v l.length (E.flat l) hsv hown _ 1 (E.flat [x]) hxv (src_one E ht x c hx) (by unfold maxLen; omega) hbb ?_
  intro A' c' w' h1 h2 _ _
  refine h A' c' w' ?_ h2
  unfold Ow
  rw [List.length_append, E.flat_append]
  exact h1
end

/-- cells of numbers -/
def ints (l : List Nat) : Array Value := (l.map fun i : Nat => Value.int .i64 i).toArray
theorem ints_get {l : List Nat} {k x : Nat} (h : l[k]? = some x) : (ints l)[k]? = some (.int .i64 x) := by simp [ints, h]
theorem ints_size (l : List Nat) : (ints l).size = l.length := by simp [ints]
theorem ints_set (l : List Nat) (k x : Nat) : (ints l).setIfInBounds k (.int .i64 x) = ints (l.set k x) := by simp [ints, List.map_set]
theorem ints_flat (l : List Nat) : (ints l).toList = intE.flat l := by
  induction l with
  | nil => rfl
  | cons x r ih => rw [intE.flat_cons, ← ih]; simp [ints, intE]
theorem made_one (v : Value) (g : Nat) : madeCells #[v] g = (List.replicate g v).toArray := by
  apply Array.ext'
  apply List.ext_getElem?
  intro i
  by_cases h : i < g
  · simp [madeCells, h, Nat.mod_one, List.getElem?_replicate]
  · simp [madeCells, h, List.getElem?_replicate]
theorem made_ints (g : Nat) : madeCells #[.int .i64 0] g = ints (List.replicate g 0) := by rw [made_one]; simp [ints]
theorem Bk.ow {w : World} {B b cap : Nat} {e : TypeId} {cur : Array Value} {α : Type} {E : Enc α} {l : List α} (h : Bk w b cur e) (hB : B ≤ b) (hl : l.length ≤ cap) (hc : cap ≤ 1000000) (hs : cur.size = cap * E.sz) (ht : cur.toList.take (l.length * E.sz) = E.flat l) : Ow E w B e (.slice (some ⟨b, 0, none⟩) l.length cap) l :=
  ⟨by rw [E.flat_len], .inr ⟨b, cap, cur, rfl, hB, h, hl, by unfold maxLen; omega, hs, ht⟩⟩
theorem ints_ow {w : World} {B b : Nat} {l : List Nat} (h : Bk w b (ints l) 3) (hB : B ≤ b) (hl : l.length ≤ 1000000) : Ow intE w B 3 (.slice (some ⟨b, 0, none⟩) l.length l.length) l :=
  h.ow hB (Nat.le_refl _) hl (by rw [ints_size, show intE.sz = 1 from rfl, Nat.mul_one]) (by rw [ints_flat, List.take_of_length_le (by rw [intE.flat_len]; exact Nat.le_refl _)])

end Go.Proofs.YtclmjnobacepjaaGreat

/- maps from handles: a block reads as a function from handles to values, and has so many entries; what look-ups, stores and deletions do. Condition: keys are 64-bit numbers. -/
namespace Go.Proofs.YtclmjnobacepjaaGreat
open Go.RowKit Go.Maps

def hR (v : Value) : Option (DataW Value × List MemPlace) := some (.held v, [])
theorem hR_inv {v : Value} {y : DataW Value × List MemPlace} (h : hR v = some y) : y = (.held v, []) := by cases h; rfl
theorem lawH : Keyed Tryz.prog 35 := int_keyed Tryz.underlying35

/-- a handle as a value -/
def hv (k : Int) : Value := .int .u64 k
def inH (k : Int) : Prop := 0 ≤ k ∧ k < 18446744073709551616
theorem keyH {k : Int} (h : inH k) : keyOf Tryz.prog 35 (hv k) = some (.int .u64 k) :=
  keyOf_int_mk Tryz.underlying35 (WalkArith.wf_u64 (by unfold inH at h; omega))

/-- block b of w is a map that reads as f and has cnt entries -/
def MapIs (w : World) (b : Nat) (f : Int → Option Value) (cnt : Nat) : Prop :=
  ∃ (n : Nat) (D : DataW Value), w.ownsMap Tryz.prog 35 hR b n D ∧ n ≤ 4611686018427387904 ∧ (∀ k, inH k → has D (.int .u64 k) = (f k).isSome) ∧ (∀ k z, inH k → D.atKey (.int .u64 k) (.held z) = .held ((f k).getD z)) ∧ size D = cnt

theorem MapIs.keep {w w' : World} {b cnt : Nat} {f : Int → Option Value} (h : MapIs w b f cnt) (hk : w'.heap[b]? = w.heap[b]?) : MapIs w' b f cnt := by
  obtain ⟨n, D, ⟨es, clock, hb, r⟩, rest⟩ := h
  exact ⟨n, D, ⟨es, clock, hk.trans hb, r⟩, rest⟩
theorem MapIs.lt {w : World} {b cnt : Nat} {f : Int → Option Value} (h : MapIs w b f cnt) : b < w.heap.size := by
  obtain ⟨n, D, h, _⟩ := h
  exact h.lt
theorem MapIs.alloc {w : World} {b cnt : Nat} {f : Int → Option Value} (h : MapIs w b f cnt) (o : Obj) : MapIs (w.alloc o) b f cnt := h.keep (Below.heap_alloc w o b h.lt)
theorem MapIs.ext {w w' : World} {b cnt B : Nat} {f : Int → Option Value} (h : MapIs w b f cnt) (hb : Below B w w') (hB : b < B) : MapIs w' b f cnt := h.keep (hb.block b hB)
theorem MapIs.grown {w w' : World} {b cnt : Nat} {f : Int → Option Value} {row : Option Nat} (h : MapIs w b f cnt) (hg : w.grownBy w' row) (hne : some b ≠ row) : MapIs w' b f cnt := h.keep (hg.block b h.lt hne)
theorem MapIs.made (w : World) : MapIs (w.alloc (.map #[] 0)) w.heap.size (fun _ => none) 0 :=
  ⟨0, .map [], World.ownsMap_made w _ _ _, by omega, fun _ _ => rfl, fun _ _ _ => rfl, rfl⟩
theorem MapIs.congr {w : World} {b cnt : Nat} {f g : Int → Option Value} (h : MapIs w b f cnt) (e : ∀ k, inH k → f k = g k) : MapIs w b g cnt := by
  obtain ⟨n, D, h1, h2, h3, h4, h5⟩ := h
  exact ⟨n, D, h1, h2, fun k hk => by rw [← e k hk]; exact h3 k hk, fun k z hk => by rw [← e k hk]; exact h4 k z hk, h5⟩

/-- m[k] -/
theorem MapIs.look {w : World} {b cnt : Nat} {f : Int → Option Value} (h : MapIs w b f cnt) {t e : TypeId} (ht : Tryz.prog.underlying t = some (.map 35 e)) {z : Value} (hz : (zeroValue e).run Tryz.prog w = .ok z w) {k : Int} (hk : inH k) :
    (Instr.lookup t (.map (some b)) (.int .u64 k) false).run Tryz.prog w = .ok ((f k).getD z) w := by
  obtain ⟨n, D, h1, h2, h3, h4, h5⟩ := h
  obtain ⟨v, ps, hrun, hr⟩ := h1.lookup lawH ht hz (zd := .held z) (zp := []) rfl (keyH hk)
  have e1 := hR_inv hr
  rw [h4 k z hk] at e1
  have e2 := congrArg Prod.fst e1
  simp only [DataW.held.injEq] at e2
  rw [e2]; exact hrun

/-- v, ok := m[k] -/
theorem MapIs.look2 {w : World} {b cnt : Nat} {f : Int → Option Value} (h : MapIs w b f cnt) {t e : TypeId} (ht : Tryz.prog.underlying t = some (.map 35 e)) {z : Value} (hz : (zeroValue e).run Tryz.prog w = .ok z w) {k : Int} (hk : inH k) :
    (Instr.lookup t (.map (some b)) (.int .u64 k) true).run Tryz.prog w = .ok (.tuple #[(f k).getD z, .bool (f k).isSome]) w := by
  obtain ⟨n, D, h1, h2, h3, h4, h5⟩ := h
  obtain ⟨v, ps, hrun, hr⟩ := h1.look_ok lawH ht hz (zd := .held z) (zp := []) rfl (keyH hk)
  have e1 := hR_inv hr
  rw [h4 k z hk] at e1
  have e2 := congrArg Prod.fst e1
  simp only [DataW.held.injEq] at e2
  rw [e2, ← h3 k hk]; exact hrun

/-- what a function reads behind a store -/
def upd (f : Int → Option Value) (k : Int) (v : Value) : Int → Option Value := fun x => if x = k then some v else f x
def del (f : Int → Option Value) (k : Int) : Int → Option Value := fun x => if x = k then none else f x

theorem keyLit (k : Int) : WideAt.IsKeyLit (.int .u64 k) := trivial
theorem lit_ne {k x : Int} (h : x ≠ k) : (Lit.int .u64 x) ≠ .int .u64 k := fun e => h (by injection e)

theorem MapIs.put {w w' : World} {b : Nat} {f : Int → Option Value} {n cnt : Nat} {D : DataW Value} {k : Int} {v : Value} (h0 : w.ownsMap Tryz.prog 35 hR b n D) (hn : n < 4611686018427387904) (h3 : ∀ k, inH k → has D (.int .u64 k) = (f k).isSome) (h4 : ∀ k z, inH k → D.atKey (.int .u64 k) (.held z) = .held ((f k).getD z)) (h5 : size D = cnt) (hk : inH k)
    (h1 : w'.ownsMap Tryz.prog 35 hR b (n + 1) (D.put (.int .u64 k) (.held v))) : MapIs w' b (upd f k v) (if (f k).isSome then cnt else cnt + 1) := by
  refine ⟨n + 1, _, h1, by omega, fun x hx => ?_, fun x z hx => ?_, ?_⟩
  · unfold upd
    by_cases e : x = k
    · subst e; rw [has_put_same h0.isMap (keyLit _)]; simp
    · rw [has_put_other (lit_ne e), h3 x hx, if_neg e]
  · unfold upd
    by_cases e : x = k
    · subst e; rw [atKey_put_same h0.isMap (keyLit _)]; simp
    · rw [atKey_put_other (lit_ne e), h4 x z hx, if_neg e]
  · rw [size_put (h0.tidy lawH), h3 k hk, h5]

/-- m[k] = v: the run -/
theorem MapIs.store {w : World} {b cnt : Nat} {f : Int → Option Value} (h : MapIs w b f cnt) (hc : cnt ≤ 1000000) {t e : TypeId} (ht : Tryz.prog.underlying t = some (.map 35 e)) {k : Int} (hk : inH k) (v : Value) :
    ∃ w', (Instr.mapUpdate t (.map (some b)) (.int .u64 k) v).run Tryz.prog w = .ok () w' ∧ MapIs w' b (upd f k v) (if (f k).isSome then cnt else cnt + 1) ∧ w.grownBy w' (some b) ∧ w'.heap.size = w.heap.size := by
  obtain ⟨n, D, h1, h2, h3, h4, h5⟩ := h
  have h1' : w.ownsMap Tryz.prog 35 hR b (size D) D := by
    obtain ⟨es, clock, hb, F, hs, rfl⟩ := h1
    exact ⟨es, clock, hb, F, by simp [size, length_sorted], rfl⟩
  obtain ⟨w', hrun, hown, hg⟩ := h1'.store lawH ht (by unfold maxLen; omega) (keyH hk) (val := v) (d := .held v) (ps := []) rfl
  refine ⟨w', hrun, MapIs.put h1' (by omega) h3 h4 h5 hk hown, hg.grown, ?_⟩
  obtain ⟨_, _, _, _, _, rfl⟩ := hg
  simp [Go.ChangeMaps.setBlock]

/-- delete(m, k): the run -/
theorem MapIs.drop {w : World} {b cnt : Nat} {f : Int → Option Value} (h : MapIs w b f cnt) {t e : TypeId} (ht : Tryz.prog.underlying t = some (.map 35 e)) {k : Int} (hk : inH k) (ty : TypeId) :
    ∃ w', (Builtin.delete_ #[t, 35] ty #[.map (some b), .int .u64 k]).run Tryz.prog w = .ok (.tuple #[]) w' ∧ MapIs w' b (del f k) (cnt - (if (f k).isSome then 1 else 0)) ∧ w.grownBy w' (some b) ∧ w'.heap.size = w.heap.size := by
  obtain ⟨n, D, h1, h2, h3, h4, h5⟩ := h
  obtain ⟨w', hrun, hown, hg⟩ := h1.drop lawH ht (keyH hk) ty
  refine ⟨w', hrun, ⟨n, _, hown, h2, fun x hx => ?_, fun x z hx => ?_, ?_⟩, hg.grown, ?_⟩
  · unfold del
    by_cases e : x = k
    · subst e; rw [has_del_same]; simp
    · rw [has_del_other (lit_ne e), h3 x hx, if_neg e]
  · unfold del
    by_cases e : x = k
    · subst e; rw [atKey_del_same]; simp
    · rw [atKey_del_other (lit_ne e), h4 x z hx, if_neg e]
  · have := size_del (k := .int .u64 k) (h1.tidy lawH)
    rw [h3 k hk, h5] at this
    omega
  · obtain ⟨_, _, _, _, _, rfl⟩ := hg
    simp [Go.ChangeMaps.setBlock]

/-- len(m): the run -/
theorem MapIs.len {w : World} {b cnt : Nat} {f : Int → Option Value} (h : MapIs w b f cnt) {t e : TypeId} (ht : Tryz.prog.underlying t = some (.map 35 e)) (ty : TypeId) :
    (Builtin.len_ #[t] ty #[.map (some b)]).run Tryz.prog w = .ok (.int .i64 cnt) w := by
  obtain ⟨n, D, h1, h2, h3, h4, h5⟩ := h
  rw [← h5]; exact h1.len ht ty

section
variable (w : World) {ops : Array Oper} {rest : List Oper} {o : Oper} {a : Act} {Q : Exit → Act → World → Prop}

theorem wpList_mlook (hg : o.guard = none) (m x : Operand) (t : TypeId) (hop : o.op = Op.lookup t m x false) (e : TypeId) (ht : Tryz.prog.underlying t = some (.map 35 e)) {z : Value} (hz : (zeroValue e).run Tryz.prog w = .ok z w)
    (b cnt : Nat) (f : Int → Option Value) (hm : a.eval m = .map (some b)) (h : MapIs w b f cnt) (k : Int) (hx : a.eval x = .int .u64 k) (hk : inH k)
    (hK : wpList Tryz.prog ops Q rest (a.put o.dst ((f k).getD z)) w) : wpList Tryz.prog ops Q (o :: rest) a w := by
  refine wpList_plain hg fun K' hK' => ?_
  unfold Oper.wp
  simp [execOp, hop, hm, hx, h.look ht hz hk, Result.andThen]
  exact hK' _ _ hK

theorem wpList_mlook2 (hg : o.guard = none) (m x : Operand) (t : TypeId) (hop : o.op = Op.lookup t m x true) (e : TypeId) (ht : Tryz.prog.underlying t = some (.map 35 e)) {z : Value} (hz : (zeroValue e).run Tryz.prog w = .ok z w)
    (b cnt : Nat) (f : Int → Option Value) (hm : a.eval m = .map (some b)) (h : MapIs w b f cnt) (k : Int) (hx : a.eval x = .int .u64 k) (hk : inH k)
    (hK : wpList Tryz.prog ops Q rest (a.put o.dst (.tuple #[(f k).getD z, .bool (f k).isSome])) w) : wpList Tryz.prog ops Q (o :: rest) a w := by
  refine wpList_plain hg fun K' hK' => ?_
  unfold Oper.wp
  simp [execOp, hop, hm, hx, h.look2 ht hz hk, Result.andThen]
  exact hK' _ _ hK

theorem wpList_mstore (hg : o.guard = none) (m x v : Operand) (t : TypeId) (hop : o.op = Op.mapUpdate t m x v) (e : TypeId) (ht : Tryz.prog.underlying t = some (.map 35 e))
    (b cnt : Nat) (f : Int → Option Value) (hm : a.eval m = .map (some b)) (h : MapIs w b f cnt) (hc : cnt ≤ 1000000) (k : Int) (val : Value) (hx : a.eval x = .int .u64 k) (hv : a.eval v = val) (hk : inH k)
    (hK : ∀ w', MapIs w' b (upd f k val) (if (f k).isSome then cnt else cnt + 1) → w.grownBy w' (some b) → w'.heap.size = w.heap.size → wpList Tryz.prog ops Q rest (a.put o.dst undef) w') : wpList Tryz.prog ops Q (o :: rest) a w := by
  refine wpList_plain hg fun K' hK' => ?_
  obtain ⟨w', hrun, r1, r2, r3⟩ := h.store hc ht hk val
  unfold Oper.wp
  simp [execOp, hop, hm, hx, hv, hrun, Result.andThen]
  exact hK' _ _ (hK w' r1 r2 r3)

theorem wpList_mdelete (hg : o.guard = none) (m x : Operand) (t : TypeId) (hop : o.op = Op.call { callee := Callee.builtin Builtin.delete, args := #[m, x], argTypes := #[t, 35] }) (e : TypeId) (ht : Tryz.prog.underlying t = some (.map 35 e))
    (b cnt : Nat) (f : Int → Option Value) (hm : a.eval m = .map (some b)) (h : MapIs w b f cnt) (k : Int) (hx : a.eval x = .int .u64 k) (hk : inH k)
    (hK : ∀ w', MapIs w' b (del f k) (cnt - (if (f k).isSome then 1 else 0)) → w.grownBy w' (some b) → w'.heap.size = w.heap.size → wpList Tryz.prog ops Q rest (a.put o.dst (.tuple #[])) w') : wpList Tryz.prog ops Q (o :: rest) a w := by
  refine wpList_plain hg fun K' hK' => ?_
  obtain ⟨w', hrun, r1, r2, r3⟩ := h.drop ht hk o.type
  unfold Oper.wp
  simp [execOp, hop, resolve, invoke, builtin, hm, hx, hrun, Result.andThen]
  exact hK' _ _ (hK w' r1 r2 r3)

theorem wpList_mlen (hg : o.guard = none) (m : Operand) (t : TypeId) (hop : o.op = Op.call { callee := Callee.builtin Builtin.len, args := #[m], argTypes := #[t] }) (e : TypeId) (ht : Tryz.prog.underlying t = some (.map 35 e))
    (b cnt : Nat) (f : Int → Option Value) (hm : a.eval m = .map (some b)) (h : MapIs w b f cnt)
    (hK : wpList Tryz.prog ops Q rest (a.put o.dst (.int .i64 cnt)) w) : wpList Tryz.prog ops Q (o :: rest) a w := by
  refine wpList_plain hg fun K' hK' => ?_
  unfold Oper.wp
  simp [execOp, hop, resolve, invoke, builtin, hm, h.len ht o.type, Result.andThen]
  exact hK' _ _ hK
end

end Go.Proofs.YtclmjnobacepjaaGreat
