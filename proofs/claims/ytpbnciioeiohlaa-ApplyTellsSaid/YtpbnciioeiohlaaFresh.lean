/- quartolaw04.fresh: it returns different bytes that neither string has, and whether there are as many as were asked for. Condition: the strings and the number read as values of their types. -/
import Derived.Test.YtpbnciioeiohlaaLawBack
namespace Go.Proofs.Ytpbnciioeiohlaa
open Go.RowKit

def usedB (U : List UInt8) (i : Nat) : Bool := U.any fun c => c.toNat == i
theorem usedB_snoc (U : List UInt8) (c : UInt8) (i : Nat) : usedB (U ++ [c]) i = (usedB U i || c.toNat == i) := by simp [usedB]
theorem usedB_mem {U : List UInt8} {c : UInt8} (h : usedB U c.toNat = false) : c ∉ U := by
  intro hc
  have : usedB U c.toNat = true := List.any_eq_true.2 ⟨c, hc, by simp⟩
  rw [h] at this
  cases this
/-- the table of the bytes that are used -/
def Tab (w : World) (b : Nat) (U : List UInt8) : Prop := ∃ cur, w.heap[b]? = some (.cells cur 93 (0, 0)) ∧ cur.size = 256 ∧ ∀ i, i < 256 → cur[i]? = some (.bool (usedB U i))
theorem Tab.lt {w : World} {b : Nat} {U : List UInt8} (h : Tab w b U) : b < w.heap.size := by
  obtain ⟨cur, h1, -⟩ := h
  exact heap_lt h1
theorem Tab.cell {w : World} {b : Nat} {U : List UInt8} (h : Tab w b U) (i : Nat) (hi : i < 256) : w.cell? ⟨b, i, none⟩ = some (.bool (usedB U i)) := by
  obtain ⟨cur, h1, h2, h3⟩ := h
  rw [Lib.cell_of_heap h1]
  exact h3 i hi
theorem Tab.frozen {w : World} {b : Nat} {U : List UInt8} (h : Tab w b U) (i : Nat) : w.frozen? ⟨b, i, none⟩ = false := by
  obtain ⟨cur, h1, h2, h3⟩ := h
  exact Lib.frozen_of_heap h1 i
theorem Tab.keep {w w' : World} {b : Nat} {U : List UInt8} {T : Nat → Prop} (h : Tab w b U) (hf : Fr T w w') (hT : ¬ T b) : Tab w' b U := by
  obtain ⟨cur, h1, h2⟩ := h
  exact ⟨cur, (hf.block b (heap_lt h1) hT).trans h1, h2⟩
theorem Tab.set {w : World} {b : Nat} {U : List UInt8} (h : Tab w b U) (c : UInt8) : Tab (w.setCell ⟨b, c.toNat, none⟩ (.bool true)) b (U ++ [c]) := by
  obtain ⟨cur, h1, h2, h3⟩ := h
  have hc := c.toNat_lt
  refine ⟨cur.setIfInBounds c.toNat (.bool true), by simp [World.setCell, Array.getElem?_modify, h1], by simp [h2], fun i hi => ?_⟩
  rw [usedB_snoc, Array.getElem?_setIfInBounds]
  by_cases e : c.toNat = i
  · subst e
    rw [if_pos rfl, if_pos (by omega)]
    simp
  · rw [if_neg e, h3 i hi]
    simp [e]
theorem zeroTab : Try.zeroCells93 = Array.replicate 256 (.bool false) := by kernel_rfl
theorem Tab.new (w : World) : Tab (w.alloc (.cells Try.zeroCells93 93)) w.heap.size [] := by
  refine ⟨_, heap_alloc_new w _, by rw [zeroTab]; simp, fun i hi => ?_⟩
  rw [zeroTab]
  simp [hi, usedB]

def freshPost (n : Int) (x y : List UInt8) (w : World) (e : Ending) (w' : World) : Prop :=
  ∃ S : List UInt8, e = .returned (.tuple #[.string ⟨S.toArray⟩, .bool ((S.length : Int) == n)]) ∧ S.Nodup ∧ (∀ c ∈ S, c ∉ x ++ y) ∧ S.length ≤ 256 ∧ Below w.heap.size w w'

def byE : Enc UInt8 := ⟨1, by decide, fun b => [.int .u8 (b.toNat : Int)], fun _ => rfl, by intro x u h; simp at h; subst h; rfl⟩
theorem flat_by (l : List UInt8) : byE.flat l = bc l := by
  induction l with
  | nil => rfl
  | cons b l ih =>
    rw [byE.flat_cons, ih]
    rfl

set_option maxHeartbeats 4000000 in
set_option maxRecDepth 100000 in
theorem fresh_any (n : Int) (x y : List UInt8) (w : World) (hn : 0 ≤ n) (hn' : n ≤ 1048576) (hx : x.length ≤ 9223372036854775807) (hy : y.length ≤ 9223372036854775807) :
    Calls Try.prog 40 #[.int .i64 n, .string ⟨x.toArray⟩, .string ⟨y.toArray⟩] w (freshPost n x y w) := by
  obtain ⟨j0, hj, jz0, jz1, jz2⟩ := info_parts infoByte
  have T0 := Lib.hid (Tab.new w)
  have B0 := Lib.hid ((Below.refl w.heap.size w).alloc (Nat.le_refl _) (.cells Try.zeroCells93 93))
  go_enter Try.func40, Try.ntmps40
  go_wp2_with fail
  go_loopw [9] (fun i wr => ∃ k : Nat, k ≤ x.length ∧ i = .int .i64 k ∧ Hid (Tab wr w.heap.size (x.take k)) ∧ Hid (Below w.heap.size w wr)) (fun i _ => x.length - (intOf i).toNat)
  case atStart => exact ⟨0, by omega, rfl, T0, B0⟩
  case round =>
    obtain ⟨k, hk, rfl, hT, hB⟩ := hrel
    by_cases hlt : k < x.length
    · have hsn : x.take (k + 1) = x.take k ++ [x[k]] := List.take_succ_eq_append_getElem hlt
      have Hsn := Lib.hid hsn; clear hsn
      have hc := x[k].toNat_lt
      have cf := hT.out.frozen x[k].toNat
      have cc := hT.out.cell x[k].toNat hc
      have hget : (⟨x.toArray⟩ : ByteArray)[k]'(by simpa [ByteArray.size] using hlt) = x[k] := rfl
      generalize x[k] = c at *
      have hlt' := hT.out.lt
      go_wp2
      go_roundw
      case rel => exact ⟨k + 1, by omega, by go_num, Lib.hid (by rw [Hsn.out]; exact hT.out.set c), Lib.hid (hB.out.setCell (by exact Nat.le_refl _) _)⟩
      case measure => simp [intOf]; omega
    · have hkl : x.take k = x := List.take_of_length_le (by omega)
      have hT' := hT.out
      rw [hkl] at hT'
      have T1 := Lib.hid hT'
      clear hT' hkl hT
      go_wp2_with fail
      go_loopw [10] (fun i wr => ∃ k : Nat, k ≤ y.length ∧ i = .int .i64 k ∧ Hid (Tab wr w.heap.size (x ++ y.take k)) ∧ Hid (Below w.heap.size w wr)) (fun i _ => y.length - (intOf i).toNat)
      case atStart => exact ⟨0, by omega, rfl, Lib.hid (by simpa using T1.out), hB⟩
      clear T1 hB hlt hk
      case round =>
        obtain ⟨k, hk, rfl, hT, hB⟩ := hrel
        by_cases hlt : k < y.length
        · have hsn : x ++ y.take (k + 1) = x ++ y.take k ++ [y[k]] := by rw [List.take_succ_eq_append_getElem hlt, List.append_assoc]
          have Hsn := Lib.hid hsn; clear hsn
          have hc := y[k].toNat_lt
          have cf := hT.out.frozen y[k].toNat
          have cc := hT.out.cell y[k].toNat hc
          have hget : (⟨y.toArray⟩ : ByteArray)[k]'(by simpa [ByteArray.size] using hlt) = y[k] := rfl
          generalize y[k] = c at *
          have hlt' := hT.out.lt
          go_wp2
          go_roundw
          case rel => exact ⟨k + 1, by omega, by go_num, Lib.hid (by rw [Hsn.out]; exact hT.out.set c), Lib.hid (hB.out.setCell (by exact Nat.le_refl _) _)⟩
          case measure => simp [intOf]; omega
        · have hkl : y.take k = y := List.take_of_length_le (by omega)
          have hT' := hT.out
          rw [hkl] at hT'
          have T1 := Lib.hid hT'
          have hls := hT'.lt
          clear hT' hkl hT
          obtain ⟨BQ, hbq1, hbq2⟩ : ∃ n, w.heap.size < n ∧ n ≤ wr.heap.size := ⟨wr.heap.size, hls, Nat.le_refl _⟩
          generalize hU : x ++ y = U at T1
          have HU := Lib.hid hU; clear hU
          go_wp2_with fail
          go_loopw [11, 12] (fun vo i wz => ∃ (k : Nat) (S : List UInt8) (A5 : Option Addr) (c5 : Nat), k ≤ 256 ∧ i = .int .i64 k ∧ vo = .slice A5 S.length c5 ∧ S.length ≤ k ∧ Hid (S.Nodup ∧ ∀ c ∈ S, c.toNat < k ∧ c ∉ U) ∧ Hid (wz.ownsRow BQ 5 1 (.slice A5 S.length c5) S.length (bc S)) ∧ Hid (Tab wz w.heap.size U) ∧ Hid (Below w.heap.size w wz) ∧ BQ ≤ wz.heap.size) (fun _ i _ => 256 - (intOf i).toNat)
          case atStart => exact ⟨0, [], none, 0, by omega, rfl, rfl, by simp, Lib.hid ⟨by simp, by simp⟩, Lib.hid (World.ownsRow_nil _ _ _ _), T1, hB, hbq2⟩
          clear T1 hB hlt hk hbq2 hls
          case round =>
            obtain ⟨k, S, A5, c5, hk, rfl, rfl, hSk, hS, hO, hT, hB, hsz⟩ := hrel
            by_cases hlt : k < 256
            · by_cases hless : (S.length : Int) < n
              · have hlt' := hT.out.lt
                have cc := hT.out.cell k hlt
                have hk1 : (k : Int) < 256 := by omega
                by_cases hu : usedB U k = true
                · rw [hu] at cc
                  have Hu := Lib.hid hu; clear hu
                  go_wp2
                  go_roundw
                  case rel => exact ⟨k + 1, S, A5, c5, by omega, by go_num, rfl, by omega, Lib.hid ⟨hS.out.1, fun c hc => ⟨by have := (hS.out.2 c hc).1; omega, (hS.out.2 c hc).2⟩⟩, hO, hT, hB, hsz⟩
                  case measure => simp [intOf]; omega
                · have hu' : usedB U k = false := by simpa using hu
                  rw [hu'] at cc
                  have Hu := Lib.hid hu'; clear hu hu'
                  obtain ⟨c, rfl⟩ : ∃ c : UInt8, k = c.toNat := ⟨UInt8.ofNat k, by rw [UInt8.toNat_ofNat', Nat.mod_eq_of_lt (by omega)]⟩
                  go_wp2_with (
                    at_builtin
                    refine wpListB_append _ rfl (.tmp 47) (.tmp 50) 79 79 rfl BQ (by simp; omega) 5 j0 _ 1 1 Try.underlying79 hj jz0 jz1 jz2 rfl (by decide) _ _ _ rfl (hO.out.alloc _) _ 1 _ rfl (src_one byE Try.underlying79 (off := 0) c _ ?_) ?_ ?_ ?_
                    · exact new_cells _ _ _
                    · unfold maxLen; omega
                    · omega
                    intro A8 c8 w8 hown8 hg8 _ _
                    have Ho8 := Lib.hid hown8; have Hg8 := Lib.hid hg8
                    clear hown8 hg8)
                  go_roundw
                  case rel =>
                    have hne : ∀ g, (Value.slice A5 S.length c5).ownBlock = some g → g ≠ w.heap.size := fun g hg e => by
                      obtain ⟨cur, h1⟩ := own_block (own_zero hO.out) hg
                      obtain ⟨cur', h2, -⟩ := hT.out
                      subst e
                      exact ty_ne h1 h2 (by decide) rfl
                    refine ⟨c.toNat + 1, S ++ [c], A8, c8, by omega, by go_num, by simp, by simp; omega, Lib.hid ⟨?_, ?_⟩, Lib.hid ?_, Lib.hid ?_, Lib.hid ?_, ?_⟩
                    · rw [List.nodup_append]
                      refine ⟨hS.out.1, by simp, fun a ha b hb e => ?_⟩
                      simp at hb
                      subst hb e
                      have := (hS.out.2 _ ha).1
                      omega
                    · intro d hd
                      rw [List.mem_append] at hd
                      rcases hd with hd | hd
                      · exact ⟨by have := (hS.out.2 d hd).1; omega, (hS.out.2 d hd).2⟩
                      · simp at hd
                        subst hd
                        exact ⟨by omega, usedB_mem Hu.out⟩
                    · have := Ho8.out
                      rw [flat_by, ← bc_append] at this
                      simpa using this
                    · exact ((hT.out.keep (Fr.alloc (fun _ => False) _ _) id).keep (Fr.of_grown Hg8.out) (fun e => hne _ e.symm rfl))
                    · exact (hB.out.alloc hB.out.size _).grown Hg8.out (by have := hB.out.size; simp; omega) (fun g hg => by have := (hO.out.lt g hg).1; omega)
                    · have := Hg8.out.size; simp at this; omega
                  case measure => simp [intOf]; omega
              · have hcv := own_str hO.out
                have hk1 : (k : Int) < 256 := by omega
                go_wp2
                go_ret2
                exact ⟨S, rfl, hS.out.1, fun c hc => by rw [HU.out]; exact (hS.out.2 c hc).2, by omega, hB.out⟩
            · have hcv := own_str hO.out
              have hk1 : ¬ (k : Int) < 256 := by omega
              go_wp2
              go_ret2
              exact ⟨S, rfl, hS.out.1, fun c hc => by rw [HU.out]; exact (hS.out.2 c hc).2, by omega, hB.out⟩

end Go.Proofs.Ytpbnciioeiohlaa
