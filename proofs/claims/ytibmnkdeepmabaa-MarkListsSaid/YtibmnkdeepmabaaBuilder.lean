/- strings.Builder, of which it is known in which block it lies and in which its bytes: WriteString, String, Len, Reset. Condition: the bytes are at most 2^47. -/
import Derived.Test.YtibmnkdeepmabaaAppend
import Derived.Lib.Builder
import Derived.Lib.UnsafeStr
import Derived.Laws.Externs
namespace Go.Proofs.Ytibmnkdeepmabaa
open Go.RowKit

/-- only the blocks in S, and what is new, has changed -/
structure Fr (T : Nat → Prop) (w w' : World) : Prop where
  os : w'.os = w.os
  tape : w'.tape = w.tape
  output : w'.output = w.output
  size : w.heap.size ≤ w'.heap.size
  block : ∀ k, k < w.heap.size → ¬ T k → w'.heap[k]? = w.heap[k]?

theorem Fr.refl (T : Nat → Prop) (w : World) : Fr T w w := ⟨rfl, rfl, rfl, Nat.le_refl _, fun _ _ _ => rfl⟩
theorem Fr.trans {T : Nat → Prop} {a b c : World} (h : Fr T a b) (k : Fr T b c) : Fr T a c :=
  ⟨k.os.trans h.os, k.tape.trans h.tape, k.output.trans h.output, Nat.le_trans h.size k.size, fun i hi hn => (k.block i (Nat.lt_of_lt_of_le hi h.size) hn).trans (h.block i hi hn)⟩
/-- the second step may change what is new -/
theorem Fr.step {T U : Nat → Prop} {a b c : World} (h : Fr T a b) (k : Fr U b c) (hu : ∀ i, U i → T i ∨ a.heap.size ≤ i) : Fr T a c :=
  ⟨k.os.trans h.os, k.tape.trans h.tape, k.output.trans h.output, Nat.le_trans h.size k.size, fun i hi hn =>
    (k.block i (Nat.lt_of_lt_of_le hi h.size) (fun hui => by rcases hu i hui with h1 | h1; exact hn h1; omega)).trans (h.block i hi hn)⟩
theorem Fr.mono {T U : Nat → Prop} {w w' : World} (h : Fr T w w') (hu : ∀ i, i < w.heap.size → T i → U i) : Fr U w w' :=
  ⟨h.os, h.tape, h.output, h.size, fun k hk hn => h.block k hk fun ht => hn (hu k hk ht)⟩
theorem Fr.below {T : Nat → Prop} {w w' : World} {B : Nat} (h : Fr T w w') (hB : B ≤ w.heap.size) (ht : ∀ k, T k → B ≤ k) : Below B w w' :=
  ⟨h.os, h.tape, h.output, h.size, fun k hk => h.block k (by omega) (fun h' => by have := ht k h'; omega)⟩
theorem Fr.of_below {T : Nat → Prop} {w w' : World} (h : Below w.heap.size w w') : Fr T w w' := ⟨h.os, h.tape, h.output, h.size, fun k hk _ => h.block k hk⟩
theorem Fr.of_grown {w w' : World} {row : Option Nat} (h : w.grownBy w' row) : Fr (fun k => some k = row) w w' := ⟨h.os, h.tape, h.output, h.size, h.block⟩
theorem Fr.alloc (T : Nat → Prop) (w : World) (o : Obj) : Fr T w (w.alloc o) := Fr.of_below ((Below.refl _ _).alloc (Nat.le_refl _) o)
theorem Fr.setCell (T : Nat → Prop) (w : World) (p : Addr) (u : Value) (hp : T p.block) : Fr T w (w.setCell p u) :=
  ⟨rfl, rfl, rfl, by simp [World.setCell], fun k _ hn => Below.heap_setCell w p u k (fun e => hn (e ▸ hp))⟩
theorem Fr.drew {T : Nat → Prop} {a w : World} (h : Fr T a w) : Fr T a w.drew := ⟨h.os, h.tape, h.output, h.size, h.block⟩
theorem Fr.drewN {T : Nat → Prop} {a w : World} (h : Fr T a w) (n : Nat) : Fr T a (w.drewN n) := ⟨h.os, h.tape, h.output, h.size, h.block⟩
theorem Fr.grownBy {w w' : World} {row : Option Nat} {T : Nat → Prop} (h : Fr T w w') (ht : ∀ k, k < w.heap.size → T k → some k = row) : w.grownBy w' row :=
  ⟨h.os, h.tape, h.output, h.size, fun k hk hn => h.block k hk fun h' => hn (ht k hk h')⟩

/-- the bytes of a string, as cells -/
abbrev bc (l : List UInt8) : List Value := Lib.byteCells l

/-- A strings.Builder in block b, its bytes in the block row (none: it has no bytes) -/
def Bd (w : World) (b : Nat) (row : Option Nat) (l : List UInt8) : Prop :=
  ∃ p v, (p = .pointer none ∨ p = .pointer (some ⟨b, 0, none⟩)) ∧ w.heap[b]? = some (.cells #[p, v] 113 (0, 0)) ∧ w.ownsRow 0 5 1 v l.length (bc l) ∧ v.ownBlock = row ∧ (l = [] ↔ v = .slice none 0 0)

theorem infoByte : (Try.prog.info? 5).map (fun i => (i.zero, i.size, i.bytes)) = some (some (.int .u8 0), 1, 1) := by kernel_rfl
theorem infoBuilder : (Try.prog.info? 113).map (·.size) = some 2 := by kernel_rfl
theorem liesBuilder : liesAt Try.prog Try.prog.depth 113 (2 / Try.prog.cellsOf 113) 0 113 1 = true := by kernel_rfl
theorem cellsByte : Try.prog.cellsOf 5 = 1 := by kernel_rfl

theorem heap_lt {w : World} {b : Nat} {o : Obj} (h : w.heap[b]? = some o) : b < w.heap.size := (Array.getElem?_eq_some_iff.1 h).1

theorem Bd.lt {w : World} {b : Nat} {row : Option Nat} {l : List UInt8} (h : Bd w b row l) : b < w.heap.size := by
  obtain ⟨p, v, _, hb, _⟩ := h; exact heap_lt hb
theorem Bd.blk {w : World} {b : Nat} {row : Option Nat} {l : List UInt8} (h : Bd w b row l) : ∃ c, w.heap[b]? = some (.cells c 113 (0, 0)) := by
  obtain ⟨p, v, _, hb, _⟩ := h; exact ⟨_, hb⟩
theorem Bd.row_lt {w : World} {b : Nat} {row : Option Nat} {l : List UInt8} (h : Bd w b row l) : ∀ g, row = some g → g < w.heap.size := by
  obtain ⟨p, v, _, hb, ho, rfl, _⟩ := h
  intro g hg; exact (ho.lt g hg).2
theorem Bd.row_block {w : World} {b : Nat} {row : Option Nat} {l : List UInt8} (h : Bd w b row l) : ∀ g, row = some g → ∃ cur, w.heap[g]? = some (.cells cur 5 (0, 0)) := by
  obtain ⟨p, v, _, hb, ho, rfl, _⟩ := h
  intro g hg
  rcases ho.2 with ⟨rfl, _⟩ | ⟨g', cap, cur, rfl, _, hg', _⟩
  · simp [Value.ownBlock] at hg
  · simp [Value.ownBlock] at hg; subst hg; exact ⟨cur, hg'⟩
theorem Bd.keep {w w' : World} {b : Nat} {row : Option Nat} {l : List UInt8} {T : Nat → Prop} (h : Bd w b row l) (hf : Fr T w w') (h1 : ¬ T b) (h2 : ∀ g, row = some g → ¬ T g) : Bd w' b row l := by
  obtain ⟨p, v, hp, hb, ho, rfl, hn⟩ := h
  refine ⟨p, v, hp, (hf.block b (heap_lt hb) h1).trans hb, ?_, rfl, hn⟩
  refine ⟨ho.1, ?_⟩
  rcases ho.2 with h0 | ⟨g, cap, cur, rfl, hbg, hg, rest⟩
  · exact .inl h0
  · exact .inr ⟨g, cap, cur, rfl, hbg, (hf.block g (heap_lt hg) (h2 g rfl)).trans hg, rest⟩
theorem Bd.new (w : World) : Bd (w.alloc (.cells #[.pointer none, .slice none 0 0] 113)) w.heap.size none [] :=
  ⟨.pointer none, .slice none 0 0, .inl rfl, heap_alloc_new w _, World.ownsRow_nil _ _ _ _, rfl, by simp⟩

set_option maxHeartbeats 1000000 in
set_option maxRecDepth 100000 in
theorem copyCheck_any (b : Nat) (p v : Value) (w : World) (hp : p = .pointer none ∨ p = .pointer (some ⟨b, 0, none⟩)) (hb : w.heap[b]? = some (.cells #[p, v] 113 (0, 0))) :
    Calls Try.prog 91 #[.pointer (some ⟨b, 0, none⟩)] w fun e w' => e = .returned (.tuple #[]) ∧ w'.heap[b]? = some (.cells #[.pointer (some ⟨b, 0, none⟩), v] 113 (0, 0)) ∧ Fr (· = b) w w' := by
  obtain ⟨j, hj, hjs⟩ := Option.map_eq_some_iff.1 infoBuilder
  have h0 : w.cell? ⟨b, 0, none⟩ = some p := by rw [Lib.cell_of_heap hb]; rfl
  have hfz : w.frozen? ⟨b, 0, none⟩ = false := Lib.frozen_of_heap hb 0
  have hsh : w.shape? b = some (113, 2) := by simp [World.shape?, hb]
  rcases hp with rfl | rfl
  · have Hb := Lib.hid hb; clear hb
    go_enter Try.func91, Try.ntmps91
    go_wp2
    rw [Lib.run_to_unsafe w ⟨b, 0, none⟩ Try.underlying110 Try.underlying132 hj (by rw [hjs]; decide) hsh (Nat.zero_lt_succ 1)]
    simp only [Result.andThen]
    rw [Oper.upon_value]
    go_wp2
    rw [run_callFunc_extern Try.func94 (by kernel_rfl) (by kernel_rfl) (by kernel_rfl) (e := Extern.AbiNoEscape.same) (by kernel_rfl)]
    rw [Lib.run_noEscape]
    simp only [Result.andThen]
    rw [Oper.upon_value]
    go_wp2
    rw [Lib.run_from_unsafe w ⟨b, 0, none⟩ Try.underlying132 Try.underlying110 hj hsh liesBuilder]
    simp only [Result.andThen]
    rw [Oper.upon_value]
    go_wp2
    go_end0
    refine ⟨rfl, ?_, Fr.setCell _ _ _ _ rfl⟩
    simp [World.setCell, Array.getElem?_modify, Hb.out]
  · have Hb := Lib.hid hb; clear hb
    go_enter Try.func91, Try.ntmps91
    go_wp2
    rw [Lib.run_neq_ptr_same w _ Try.underlying110 hj]
    go_wp2
    go_end0
    exact ⟨rfl, Hb.out, Fr.refl _ _⟩

theorem blk_ne {w : World} {b : Nat} {p v : Value} {n : Nat} {xs : List Value} (hb : w.heap[b]? = some (.cells #[p, v] 113 (0, 0))) (ho : w.ownsRow 0 5 1 v n xs) : v.ownBlock ≠ some b :=
  Lib.ownBlock_ne ho hb (by decide)

set_option maxHeartbeats 2000000 in
set_option maxRecDepth 100000 in
theorem writeString_any (b : Nat) (row : Option Nat) (l s : List UInt8) (w : World) (h : Bd w b row l) (hl : l.length + s.length ≤ 140737488355328) :
    Calls Try.prog 85 #[.pointer (some ⟨b, 0, none⟩), .string ⟨s.toArray⟩] w fun e w' => e = .returned (.tuple #[.int .i64 s.length, .nilIface]) ∧
      (∃ row', Bd w' b row' (l ++ s) ∧ (row' = row ∨ ∃ g, row' = some g ∧ w.heap.size ≤ g)) ∧ Fr (fun k => k = b ∨ some k = row) w w' := by
  obtain ⟨i0, hi, hz0, hz1, hz2⟩ := info_parts infoByte
  obtain ⟨p, v, hp, hb, hown, hrow, hnil⟩ := h
  go_enter Try.func85, Try.ntmps85
  go_wp2_with (go_at_call 91; refine (copyCheck_any b p v w hp hb).mono ?_)
  rintro e w1 ⟨rfl, hb1, hf1⟩
  have hne := blk_ne hb hown
  have hown1 : w1.ownsRow 0 5 1 v l.length (bc l) := hown.kept (hf1.grownBy (row := some b) (fun k _ hk => by rw [hk])) (.inr hne)
  have c0 : w1.cell? ⟨b, 0, none⟩ = some (.pointer (some ⟨b, 0, none⟩)) := by rw [Lib.cell_of_heap hb1]; rfl
  have c1 : w1.cell? ⟨b, 1, none⟩ = some v := by rw [Lib.cell_of_heap hb1]; rfl
  have hss : (byteCells ⟨s.toArray⟩) = bc s := rfl
  have Hrow := Lib.hid hrow; clear hrow
  have Hnil := Lib.hid hnil; clear hnil
  have Hss := Lib.hid hss; clear hss
  clear hb hp hown
  go_wp2_with (at_builtin; refine wpList_append _ rfl _ _ 111 9 rfl 5 i0 (.int .u8 0) 1 1 Try.underlying111 hi hz0 hz1 hz2 rfl (by decide) _ _ _ rfl hown1 _ _ _ rfl (Src.ofString _ Try.underlying9 ⟨s.toArray⟩) ?c3 ?c4 ?_)
  case c3 => simp [ByteArray.size, maxLen]; omega
  case c4 => simp [ByteArray.size]; omega
  intro ao cap w2 hown' hgrow hat hnil'
  have hb2 : w2.heap[b]? = some (.cells #[.pointer (some ⟨b, 0, none⟩), v] 113 (0, 0)) := (hgrow.block b (heap_lt hb1) (fun e => hne e.symm)).trans hb1
  have d0 : w2.cell? ⟨b, 0, none⟩ = some (.pointer (some ⟨b, 0, none⟩)) := by rw [Lib.cell_of_heap hb2]; rfl
  have d1 : w2.cell? ⟨b, 1, none⟩ = some v := by rw [Lib.cell_of_heap hb2]; rfl
  have f1 : w2.frozen? ⟨b, 1, none⟩ = false := Lib.frozen_of_heap hb2 1
  have Hat := Lib.hid hat; clear hat
  have Hnil' := Lib.hid hnil'; clear hnil'
  go_wp2
  go_ret2
  have hne' := blk_ne hb2 (v := v) (n := l.length) (xs := bc l)
  have hfr : Fr (fun k => k = b ∨ some k = row) w w2 := by
    refine (hf1.mono fun i _ hi => .inl hi).step (Fr.of_grown hgrow) fun i hi => ?_
    rw [Hrow.out] at hi
    exact .inl (.inr hi)
  refine ⟨by simp, ⟨(Value.slice ao (l.length + s.length) cap).ownBlock, ⟨_, .slice ao (l.length + s.length) cap, .inr rfl, by simp [World.setCell, Array.getElem?_modify, hb2], ?_, rfl, ?_⟩, ?_⟩, hfr.step (Fr.setCell (· = b) w2 ⟨b, 1, none⟩ _ rfl) fun i hi => .inl (.inl hi)⟩
  · have h9 : (Value.slice ao (l.length + s.length) cap).ownBlock ≠ some b := Lib.ownBlock_ne hown' hb2 (by decide)
    have h8 := hown'.kept (w' := w2.setCell ⟨b, 1, none⟩ (.slice ao (l.length + s.length) cap)) (row := some b) ((Fr.setCell (· = b) w2 ⟨b, 1, none⟩ _ rfl).grownBy fun k _ hk => by rw [hk]) (.inr h9)
    rw [Hss.out] at h8
    rw [List.length_append, show bc (l ++ s) = bc l ++ bc s from Lib.byteCells_append l s]
    simpa [ByteArray.size] using h8
  · have h7 := Hnil'.out
    have h6 := Hnil.out
    have h8 : (Value.slice ao (l.length + s.length) cap = Value.slice none 0 0) ↔ (ao = none ∧ (l = [] ∧ s = []) ∧ cap = 0) := by simp
    rw [h8, h7, ← h6]
    simp
  · rcases Hat.out with h5 | h5
    · exact .inl (h5.trans Hrow.out)
    · exact .inr ⟨w1.heap.size, h5, hf1.size⟩

set_option maxHeartbeats 2000000 in
set_option maxRecDepth 100000 in
theorem bdString_any (b : Nat) (row : Option Nat) (l : List UInt8) (w : World) (h : Bd w b row l) :
    Calls Try.prog 83 #[.pointer (some ⟨b, 0, none⟩)] w fun e w' => e = .returned (.string ⟨l.toArray⟩) ∧ Fr (fun k => some k = row) w w' := by
  obtain ⟨p, v, hp, hb, hown, hrow, hnil⟩ := h
  clear hp
  have Hrow := Lib.hid hrow; clear hrow
  by_cases hl : l = []
  · obtain rfl : v = .slice none 0 0 := hnil.1 hl
    subst hl
    clear hnil hown
    have hUS : ∀ (q : Option Addr) (W : World), (Builtin.unsafeString_ #[129, 3] 9 #[.pointer q, .int .i64 0]).run Try.prog W = .ok (.string .empty) W := fun q W => Lib.run_unsafeString_none W _ _ _ q
    have c1 : w.drew.cell? ⟨b, 1, none⟩ = some (.slice none 0 0) := by
      have : w.drew.heap[b]? = some (.cells #[p, .slice none 0 0] 113 (0, 0)) := hb
      rw [Lib.cell_of_heap this]; rfl
    have hSD : (Builtin.unsafeSliceData_ #[111] 129 #[.slice none 0 0]).run Try.prog w.drew = .ok (.pointer none) w.drew := rfl
    clear hb
    go_enter Try.func83, Try.ntmps83
    go_wp2
    go_region
    all_goals (go_wp2; go_ret; exact ⟨rfl, (Fr.refl _ _).drew⟩)
  · have hl0 : l.length ≠ 0 := by simpa using hl
    obtain ⟨g, cap, cur, rfl, hbg, hg, hnc, hcm, hcs, htake⟩ : ∃ g cap cur, v = .slice (some ⟨g, 0, none⟩) l.length cap ∧ 0 ≤ g ∧ w.heap[g]? = some (.cells cur 5 (0, 0)) ∧ l.length ≤ cap ∧ cap ≤ maxLen ∧ cur.size = cap * 1 ∧ cur.toList.take (l.length * 1) = bc l := by
      rcases hown.2 with ⟨_, hz⟩ | ⟨g, cap, cur, hv, r⟩
      · exact absurd hz hl0
      · exact ⟨g, cap, cur, hv, r⟩
    have c1 : w.drew.cell? ⟨b, 1, none⟩ = some (.slice (some ⟨g, 0, none⟩) l.length cap) := by
      have : w.drew.heap[b]? = some (.cells #[p, .slice (some ⟨g, 0, none⟩) l.length cap] 113 (0, 0)) := hb
      rw [Lib.cell_of_heap this]; rfl
    have hSD : (Builtin.unsafeSliceData_ #[111] 129 #[.slice (some ⟨g, 0, none⟩) l.length cap]).run Try.prog w.drew = .ok (.pointer (some ⟨g, 0, none⟩)) w.drew :=
      Lib.run_unsafeSliceData_row _ _ _ _ _ _ (by omega)
    have hUS : (Builtin.unsafeString_ #[129, 3] 9 #[.pointer (some ⟨g, 0, none⟩), .int .i64 l.length]).run Try.prog w.drew = .ok (.string ⟨l.toArray⟩) (w.drew.freeze ⟨g, 0, none⟩ l.length) := by
      refine Lib.run_unsafeString_row w.drew 129 3 9 5 Try.underlying129 cellsByte g cur.size (by have hg' : w.drew.heap[g]? = some (.cells cur 5 (0, 0)) := hg; simp [World.shape?, hg']) l hl (by omega) (by unfold maxLen at hcm; omega) ?_
      intro j x hx
      have := hown.cells (g := g) rfl j (.int .u8 x.toNat) (by simp [Lib.byteCells, hx])
      exact this
    have hbb : b ≠ g := by
      rintro rfl
      rw [hb] at hg
      injection hg with hg
      injection hg with _ hg
      exact absurd hg (by decide)
    have Hnil := Lib.hid hnil; clear hnil
    have Hcs := Lib.hid hcs; clear hcs
    have Htake := Lib.hid htake; clear htake
    clear hb hown hg
    go_enter Try.func83, Try.ntmps83
    go_wp2
    go_region
    all_goals (go_wp2; go_ret; refine ⟨rfl, ?_⟩)
    all_goals
      have hr := Hrow.out
      have hbl := Lib.below_freeze (Below.drew (Below.refl g w)) (p := ⟨g, 0, none⟩) (Nat.le_refl _) l.length
      refine ⟨hbl.os, hbl.tape, hbl.output, hbl.size, fun k hk hn => ?_⟩
      rw [← hr] at hn
      simp [Value.ownBlock] at hn
      unfold World.freeze
      split
      · rfl
      · simp only [Array.getElem?_modify]
        rw [if_neg (fun e => hn e.symm)]
        rfl

set_option maxHeartbeats 1000000 in
theorem bdLen_any (b : Nat) (row : Option Nat) (l : List UInt8) (w : World) (h : Bd w b row l) :
    Calls Try.prog 82 #[.pointer (some ⟨b, 0, none⟩)] w fun e w' => e = .returned (.int .i64 l.length) ∧ w = w' := by
  obtain ⟨p, v, hp, hb, hown, hrow, hnil⟩ := h
  obtain ⟨ao, cap, rfl⟩ : ∃ ao cap, v = .slice ao l.length cap := by
    rcases hown.2 with ⟨hv, h0⟩ | ⟨g, cap, cur, hv, _⟩
    · exact ⟨none, 0, by rw [hv, h0]⟩
    · exact ⟨_, _, hv⟩
  have c1 : w.cell? ⟨b, 1, none⟩ = some (.slice ao l.length cap) := by rw [Lib.cell_of_heap hb]; rfl
  clear hp hb hown hrow hnil
  go_enter Try.func82, Try.ntmps82
  go_wp2
  go_ret
  exact ⟨rfl, rfl⟩

set_option maxHeartbeats 1000000 in
theorem bdReset_any (b : Nat) (p v : Value) (w : World) (hb : w.heap[b]? = some (.cells #[p, v] 113 (0, 0))) :
    Calls Try.prog 84 #[.pointer (some ⟨b, 0, none⟩)] w fun e w' => e = .returned (.tuple #[]) ∧ Bd w' b none [] ∧ Fr (· = b) w w' := by
  have c0 : w.cell? ⟨b, 0, none⟩ = some p := by rw [Lib.cell_of_heap hb]; rfl
  have c1 : w.cell? ⟨b, 1, none⟩ = some v := by rw [Lib.cell_of_heap hb]; rfl
  have f0 : w.frozen? ⟨b, 0, none⟩ = false := Lib.frozen_of_heap hb 0
  have f1 : w.frozen? ⟨b, 1, none⟩ = false := Lib.frozen_of_heap hb 1
  have Hb := Lib.hid hb; clear hb
  go_enter Try.func84, Try.ntmps84
  go_wp2
  go_end0
  refine ⟨rfl, ⟨.pointer none, .slice none 0 0, .inl rfl, ?_, World.ownsRow_nil _ _ _ _, rfl, by simp⟩, (Fr.setCell (· = b) w ⟨b, 0, none⟩ _ rfl).trans (Fr.setCell (· = b) _ ⟨b, 1, none⟩ _ rfl)⟩
  simp [World.setCell, Array.getElem?_modify, Hb.out]

end Go.Proofs.Ytibmnkdeepmabaa
