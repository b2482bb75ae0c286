/- mark.place with sort.Search and its closure; slices.Clone: what they return. Condition: marks in ascending order of IDs. -/
import Derived.Test.YtibmnkdeepmabaaMarkP
namespace Go.Proofs.Ytibmnkdeepmabaa
open Go.RowKit

set_option maxHeartbeats 1000000 in
theorem placeC_any (l : List Mk) (A : Option Addr) (cap b1 b2 : Nat) (d : Int) (i : Nat) (w : World) (h : Sl mkE w (.slice A l.length cap) l) (h1 : w.cell? ⟨b1, 0, none⟩ = some (.slice A l.length cap)) (h2 : w.cell? ⟨b2, 0, none⟩ = some (.int .u32 d)) (hi : i < l.length) :
    Calls Try.prog 54 #[.int .i64 i, .pointer (some ⟨b1, 0, none⟩), .pointer (some ⟨b2, 0, none⟩)] w fun e w' => e = .returned (.bool (decide (d ≤ l[i].id))) ∧ Below w.heap.size w w' := by
  obtain ⟨b, off, cap', hv, hb, c0, c1, c2⟩ := h.mk3 hi
  obtain ⟨rfl, rfl⟩ : A = some ⟨b, off, none⟩ ∧ cap = cap' := by injection hv with e1 e2 e3; exact ⟨e1, e3⟩
  obtain ⟨-, -, -, -, h3, -⟩ := id h
  have hi2 : (i : Int) < (l.length : Int) := by omega
  clear hv c1 c2 h
  generalize l[i] = m at *
  obtain ⟨x, a, g⟩ := m
  simp only at c0
  go_enter Try.func54, Try.ntmps54
  go_wp2
  go_quiet (fail)
  go_wp2
  go_ret
  exact ⟨rfl, below_drewN (Below.refl _ _) _⟩

set_option maxHeartbeats 2000000 in
theorem search_any (l : List Mk) (A : Option Addr) (cap b1 b2 : Nat) (d : Int) (w : World) (h : Sl mkE w (.slice A l.length cap) l) (h1 : w.cell? ⟨b1, 0, none⟩ = some (.slice A l.length cap)) (h2 : w.cell? ⟨b2, 0, none⟩ = some (.int .u32 d)) (hb1 : b1 < w.heap.size) (hb2 : b2 < w.heap.size) (hl : l.length ≤ 1000000)
    (hs : ∀ (i j : Nat) (hi : i < l.length) (hj : j < l.length), i ≤ j → l[i].id ≤ l[j].id) :
    Calls Try.prog 53 #[.int .i64 l.length, .func (.func 54) #[] #[.pointer (some ⟨b1, 0, none⟩), .pointer (some ⟨b2, 0, none⟩)]] w fun e w' => e = .returned (.int .i64 (plc d l)) ∧ Below w.heap.size w w' := by
  have H := Lib.hid h; have H1 := Lib.hid h1; have H2 := Lib.hid h2; have HS := Lib.hid hs
  clear h h1 h2 hs
  go_enter Try.func53, Try.ntmps53
  go_wp2_with fail
  go_loopw [5, 6] (fun x y wr => ∃ lo hi : Nat, lo ≤ hi ∧ hi ≤ l.length ∧ x = .int .i64 lo ∧ y = .int .i64 hi ∧ Hid (∀ t (h : t < l.length), t < lo → l[t].id < d) ∧ Hid (∀ t (h : t < l.length), hi ≤ t → d ≤ l[t].id) ∧ Hid (Below w.heap.size w wr)) (fun x y _ => (intOf y).toNat - (intOf x).toNat)
  case atStart => exact ⟨0, l.length, by omega, by omega, rfl, rfl, Lib.hid (fun t _ ht => absurd ht (Nat.not_lt_zero _)), Lib.hid (fun t h ht => by omega), Lib.hid (Below.refl _ _)⟩
  case round =>
    obtain ⟨lo, hi, hlh, hin, rfl, rfl, hL, hU, hB⟩ := hrel
    have hsz := hB.out.size
    by_cases hlt : lo < hi
    · have hm : (lo + hi) / 2 < l.length := by omega
      have cC := placeC_any l A cap b1 b2 d ((lo + hi) / 2) wr (H.out.ext hB.out) ((hB.out.cell (p := ⟨b1, 0, none⟩) hb1).trans H1.out) ((hB.out.cell (p := ⟨b2, 0, none⟩) hb2).trans H2.out) hm
      rw [show (((lo + hi) / 2 : Nat) : Int) = ((lo : Int) + (hi : Int)) / 2 by omega] at cC
      have hlo : (lo : Int) < (hi : Int) := by omega
      by_cases q : d ≤ l[(lo + hi) / 2].id
      · have hU2 := Lib.hid (show ∀ t (h : t < l.length), (lo + hi) / 2 ≤ t → d ≤ l[t].id from fun t h ht => Int.le_trans q (HS.out _ _ hm h ht))
        rw [decide_eq_true q] at cC
        have CC := Lib.hid cC
        clear cC q hU
        go_wp2_with fail
        refine CC.out.mono ?_
        rintro e w2 ⟨rfl, hb⟩
        go_wp2_with fail
        go_roundw
        case rel => exact ⟨lo, (lo + hi) / 2, by omega, by omega, rfl, by rw [show ((lo : Int) + (hi : Int)) / 2 = (((lo + hi) / 2 : Nat) : Int) by omega], hL, hU2, Lib.hid (hB.out.trans (hb.mono hsz))⟩
        case measure => simp [intOf]; omega
      · have hL2 := Lib.hid (show ∀ t (h : t < l.length), t < (lo + hi) / 2 + 1 → l[t].id < d from fun t h ht => by
          have := HS.out t ((lo + hi) / 2) h hm (by omega)
          omega)
        rw [decide_eq_false q] at cC
        have CC := Lib.hid cC
        clear cC q hL
        go_wp2_with fail
        refine CC.out.mono ?_
        rintro e w2 ⟨rfl, hb⟩
        go_wp2_with fail
        go_roundw
        case rel => exact ⟨(lo + hi) / 2 + 1, hi, by omega, by omega, by rw [show ((lo : Int) + (hi : Int)) / 2 + 1 = (((lo + hi) / 2 + 1 : Nat) : Int) by omega], rfl, hL2, hU, Lib.hid (hB.out.trans (hb.mono hsz))⟩
        case measure => simp [intOf]; omega
    · obtain rfl : lo = hi := by omega
      have E := Lib.hid (plc_eq d l lo hin (fun t h ht => hL.out t h ht) (fun h => hU.out lo h (Nat.le_refl _)))
      clear hL hU
      go_wp2
      go_ret
      exact ⟨by rw [E.out]; rfl, hB.out⟩

theorem cell_box1 (w : World) (x y : Value) (t t' : TypeId) : ((w.alloc (.cells #[x] t)).alloc (.cells #[y] t')).cell? ⟨w.heap.size, 0, none⟩ = some x ∧ ((w.alloc (.cells #[x] t)).alloc (.cells #[y] t')).cell? ⟨w.heap.size + 1, 0, none⟩ = some y := by
  refine ⟨cell_box _ _ _ _, ?_⟩
  have := Lib.cell_of_heap (heap_alloc_new (w.alloc (.cells #[x] t)) (.cells #[y] t')) (j := 0)
  rw [World.size_alloc] at this
  rw [this]; rfl

set_option maxHeartbeats 2000000 in
set_option maxRecDepth 100000 in
theorem place_any (v : Value) (l : List Mk) (d : Int) (w : World) (h : Sl mkE w v l) (hl : l.length ≤ 1000000)
    (hs : ∀ (i j : Nat) (hi : i < l.length) (hj : j < l.length), i ≤ j → l[i].id ≤ l[j].id) :
    Calls Try.prog 34 #[v, .int .u32 d] w fun e w' => e = .returned (.tuple #[.int .i64 (plc d l), .bool (hasB d l)]) ∧ Below w.heap.size w w' := by
  obtain ⟨A, cap, rfl, h2, h3, -⟩ := id h
  unfold maxLen at h3
  have cS := fun w' hS h1 h2 hb1 hb2 => search_any l A cap w.heap.size (w.heap.size + 1) d w' hS h1 h2 hb1 hb2 hl hs
  have hp := plc_le d l
  by_cases hk : plc d l < l.length
  · obtain ⟨b, off, cap', hv, hb, c0, c1, c2⟩ := h.mk3 hk
    obtain ⟨rfl, rfl⟩ : A = some ⟨b, off, none⟩ ∧ cap = cap' := by injection hv with e1 e2 e3; exact ⟨e1, e3⟩
    have hB : hasB d l = (l[plc d l].id == d) := by rw [hasB, List.getElem?_eq_getElem hk]
    rw [hB]
    have CS := Lib.hid cS; have H := Lib.hid h
    have hki : ((plc d l : Nat) : Int) < (l.length : Int) := by omega
    have dk := decide_eq_true hki
    have dk2 : decide (plc d l < l.length) = true := decide_eq_true hk
    clear cS h hv hB hs hp c1 c2
    generalize l[plc d l] = m at *
    generalize plc d l = k at *
    obtain ⟨x, a, g⟩ := m
    simp only at c0
    go_enter Try.func34, Try.ntmps34
    go_wp2_with fail
    refine (CS.out _ ((H.out.alloc _).alloc _) (cell_box1 _ _ _ _ _).1 (cell_box1 _ _ _ _ _).2 (by simp; omega) (by simp)).mono ?_
    rintro e w2 ⟨rfl, hb2⟩
    have hc1 := (hb2.cell (p := ⟨w.heap.size, 0, none⟩) (by simp; omega)).trans (cell_box1 _ _ _ _ _).1
    have hc2 := (hb2.cell (p := ⟨w.heap.size + 1, 0, none⟩) (by simp)).trans (cell_box1 _ _ _ _ _).2
    have hB2 := below_two hb2
    have c0' := (hB2.cell (p := ⟨b, _, none⟩) hb).trans c0
    have HB2 := Lib.hid hB2
    clear hb2 hB2 c0 CS H
    go_wp2
    go_quiet (fail)
    go_wp2
    go_ret2
    exact ⟨rfl, below_drewN HB2.out _⟩
  · have hB : hasB d l = false := by rw [hasB, List.getElem?_eq_none (by omega)]
    have hk2 : plc d l = l.length := by omega
    rw [hB]
    rw [hk2] at cS ⊢
    have CS := Lib.hid cS; have H := Lib.hid h
    clear cS h hB hs hp hk hk2
    go_enter Try.func34, Try.ntmps34
    go_wp2_with fail
    refine (CS.out _ ((H.out.alloc _).alloc _) (cell_box1 _ _ _ _ _).1 (cell_box1 _ _ _ _ _).2 (by simp; omega) (by simp)).mono ?_
    rintro e w2 ⟨rfl, hb2⟩
    have hc1 := (hb2.cell (p := ⟨w.heap.size, 0, none⟩) (by simp; omega)).trans (cell_box1 _ _ _ _ _).1
    have hc2 := (hb2.cell (p := ⟨w.heap.size + 1, 0, none⟩) (by simp)).trans (cell_box1 _ _ _ _ _).2
    have HB2 := Lib.hid (below_two hb2)
    clear hb2 CS H
    go_wp2
    go_quiet (fail)
    go_wp2
    go_ret2
    exact ⟨rfl, below_drewN HB2.out _⟩

set_option maxHeartbeats 1000000 in
set_option maxRecDepth 100000 in
theorem clone_any (v : Value) (l : List Mk) (w : World) (h : Sl mkE w v l) (hl : l.length * 24 ≤ 140737488355328) :
    Calls Try.prog 33 #[v] w fun e w' => ∃ v', e = .returned v' ∧ w'.ownsRow w.heap.size 32 3 v' l.length (mkE.flat l) ∧ Below w.heap.size w w' := by
  obtain ⟨i0, hi, hz0, hz1, hz2⟩ := info_parts infoMark
  have Hl := Lib.hid hl; clear hl
  have he : ∀ (w : World) (a : Option Addr) (n c : Nat), (binOp .eql 22 (.slice a n c) (.slice none 0 0)).run Try.prog w = .ok (.bool a.isNone) w := fun w a n c => by cases a <;> rfl
  obtain ⟨A, cap, rfl, h2, h3, h4⟩ := id h
  cases A with
  | none =>
    have hn : l = [] := by
      rcases Nat.eq_zero_or_pos l.length with e | e
      · exact List.eq_nil_of_length_eq_zero e
      · obtain ⟨b, off, e2, -⟩ := h4 e; cases e2
    subst hn
    clear h4 h
    go_enter Try.func33, Try.ntmps33
    go_wp2
    go_ret
    exact ⟨_, rfl, World.ownsRow_nil _ _ _ _, Below.refl _ _⟩
  | some ad =>
  clear h4
  go_enter Try.func33, Try.ntmps33
  go_wp2_with (
    at_builtin
    refine wpList_append _ rfl (.tmp 5) (.tmp 6) 22 22 rfl 32 i0 _ 3 24 Try.underlying22 hi hz0 hz1 hz2 rfl (by decide) _ _ _ rfl (World.ownsRow_made w #[] 0 (Nat.zero_le _) (by simp [maxLen]) (by simp)) _ _ _ rfl ((h.alloc _).src Try.underlying22) ?_ ?_ ?_
    · have := Hl.out; unfold maxLen; omega
    · have := Hl.out; omega
    intro A5 c5 w5 hown5 hg5 hat5 _)
  go_ret
  refine ⟨_, rfl, ?_, ((Below.refl _ _).alloc (Nat.le_refl _) _).grown hg5 (by simp) (fun k hk => ?_)⟩
  · have h1 := own_base (B := w.heap.size) hown5 (fun g hg => by
      rcases hat5 with e | e
      · have h9 : some w.heap.size = some g := e.symm.trans hg
        injection h9 with h9
        omega
      · have h9 : some (w.heap.size + 1) = some g := (e.trans (by simp)).symm.trans hg
        injection h9 with h9
        omega)
    simpa using h1
  · have h9 : some w.heap.size = some k := hk
    injection h9 with h9
    omega

end Go.Proofs.Ytibmnkdeepmabaa
