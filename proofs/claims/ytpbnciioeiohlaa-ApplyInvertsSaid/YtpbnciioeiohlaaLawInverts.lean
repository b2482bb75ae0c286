/- quartolaw04.ApplyInverts returns true: the walk (the law writes into what Invert gave it). -/
import Derived.Test.YtpbnciioeiohlaaLawDoes
import Derived.Test.YtpbnciioeiohlaaRef4c
namespace Go.Proofs.Ytpbnciioeiohlaa
open Go.RowKit

/-- the cells of an element of a row, whatever they hold -/
theorem row_cells {w : World} {B n : Nat} {v : Value} {ys : List Value} (h : w.ownsRow B 38 3 v n ys) {i : Nat} (hi : i < n) :
    ∃ g cap u0 u1 u2, v = .slice (some ⟨g, 0, none⟩) n cap ∧ B ≤ g ∧ g < w.heap.size ∧ w.cell? ⟨g, i * 3, none⟩ = some u0 ∧ w.cell? ⟨g, i * 3 + 1, none⟩ = some u1 ∧ w.cell? ⟨g, i * 3 + 2, none⟩ = some u2 ∧ w.frozen? ⟨g, i * 3, none⟩ = false ∧ w.frozen? ⟨g, i * 3 + 1, none⟩ = false ∧ w.frozen? ⟨g, i * 3 + 2, none⟩ = false := by
  have hlen := h.1
  rcases h.2 with ⟨rfl, h0⟩ | ⟨g, cap, cur, rfl, hB, hg, _⟩
  · omega
  · have hc : ∀ j, (hj : i * 3 + j < ys.length) → w.cell? ⟨g, i * 3 + j, none⟩ = some ys[i * 3 + j] := fun j hj => by
      have := h.cells (g := g) rfl (i * 3 + j) _ (List.getElem?_eq_getElem hj)
      rw [add_flat] at this
      simpa using this
    exact ⟨g, cap, _, _, _, rfl, hB, heap_lt hg, hc 0 (by omega), hc 1 (by omega), hc 2 (by omega), Lib.frozen_of_heap hg _, Lib.frozen_of_heap hg _, Lib.frozen_of_heap hg _⟩

theorem row_set {w : World} {B n g cap : Nat} {e : TypeId} {size : Nat} {ys : List Value} (h : w.ownsRow B e size (.slice (some ⟨g, 0, none⟩) n cap) n ys) (hB : B ≤ g) (j : Nat) (u : Value) :
    (w.setCell ⟨g, j, none⟩ u).ownsRow B e size (.slice (some ⟨g, 0, none⟩) n cap) n (ys.set j u) :=
  own_base (own_set (own_zero h) j u) (fun g' hg => by simp [Value.ownBlock] at hg; omega)

set_option maxHeartbeats 4000000 in
set_option maxRecDepth 100000 in
theorem lawApplyInverts_any (s : List UInt8) (v : Value) (l : List Pc) (w : World) (hs : s.length ≤ 140737488351232) (h : Sl pcE w v l) (hd : ∀ p, p ∈ l → p.wf) (hl : l.length * 32 ≤ 140737488355328) :
    Calls Try.prog 5 #[.string ⟨s.toArray⟩, v] w fun e w' => e = .returned (.bool true) ∧ Below w.heap.size w w' := by
  have hs' : s.length ≤ 9223372036854775807 := by omega
  have R1 := Lib.hid fun x w h => invert_any s x l w hs' h hd
  have R2 := Lib.hid fun x w h => refInvert_any s x l w hs' h hd
  have H := Lib.hid h; have Hl := Lib.hid hl
  clear h hd hl hs' hs
  generalize hL : inverseS s l = L at *
  clear hL
  generalize fitE s l = E at *
  go_enter Try.func5, Try.ntmps5
  go_wp2_with fail
  refine (own_any v l w H.out Hl.out).mono ?_
  rintro e w1 ⟨x, rfl, ho, hb⟩
  have X1 := Lib.hid (Sl.of_own ho)
  have H1 := Lib.hid (H.out.ext hb)
  have B1 := Lib.hid hb
  clear ho hb
  go_wp2_with fail
  refine (R2.out v w1 H1.out).mono ?_
  rintro e w2 ⟨v2, rfl, ho, hb⟩
  have W2 := Lib.hid (Sl.of_own ho)
  have X2 := Lib.hid (X1.out.ext hb)
  have H2 := Lib.hid (H1.out.ext hb)
  have B2 := Lib.hid (B1.out.trans (hb.mono B1.out.size))
  clear ho hb X1 H1 B1
  go_wp2_with fail
  go_loopw [8] (fun i wr => ∃ k : Nat, k ≤ 2 ∧ i = .int .i64 k ∧ Hid (Sl pcE wr x l) ∧ Hid (Sl pcE wr v l) ∧ Hid (Sl pcE wr v2 L) ∧ Hid (Below w.heap.size w wr)) (fun i _ => 2 - (intOf i).toNat)
  case atStart => exact ⟨0, by omega, rfl, X2, H2, W2, B2⟩
  case round =>
    obtain ⟨k, hk, rfl, X3, H3, W3, B3⟩ := hrel
    by_cases hlt : k < 2
    · go_wp2_with fail
      refine (R1.out x _ X3.out).mono ?_
      rintro e w4 ⟨v4, rfl, ho, hb⟩
      obtain ⟨A4, c4, rfl⟩ := own_form _ (own_zero ho)
      have G4 := Lib.hid (Sl.of_own ho)
      have O4 := Lib.hid ho
      have X4 := Lib.hid (X3.out.ext hb)
      have H4 := Lib.hid (H3.out.ext hb)
      have W4 := Lib.hid (W3.out.ext hb)
      have hB3 := B3.out.size
      have D4 := Lib.hid hb
      clear ho hb
      go_wp2_with fail
      refine (same_any _ v2 L L _ G4.out W4.out).mono ?_
      rintro e w5 ⟨rfl, hb⟩
      have hz4 := D4.out.size
      have O5 := Lib.hid (own_keepB O4.out (Fr.of_below (T := fun _ => False) hb) (fun _ _ h => h))
      have X5 := Lib.hid (X4.out.ext hb)
      have H5 := Lib.hid (H4.out.ext hb)
      have D5 := Lib.hid (D4.out.trans (hb.mono hz4))
      clear hb G4 W4 X4 H4 D4 O4
      rw [sameB_refl L]
      go_wp2_with fail
      refine (same_any x v l l _ X5.out H5.out).mono ?_
      rintro e w6 ⟨rfl, hb⟩
      have hz5 := D5.out.size
      have O6 := Lib.hid (own_keepB O5.out (Fr.of_below (T := fun _ => False) hb) (fun _ _ h => h))
      have D6 := Lib.hid (D5.out.trans (hb.mono hz5))
      clear hb X5 H5 D5 O5
      rw [sameB_refl l]
      go_wp2_with fail
      have hLm : L.length ≤ maxLen := by
        have := W3.out.len_le
        exact this
      unfold maxLen at hLm
      have hz6 := D6.out.size
      go_loopw [11] (fun j wi => ∃ (i : Nat) (ys : List Value), i ≤ L.length ∧ j = .int .i64 i ∧ Hid (wi.ownsRow wr.heap.size 38 3 (.slice A4 L.length c4) L.length ys) ∧ Hid (Below wr.heap.size wr wi)) (fun j _ => L.length - (intOf j).toNat)
      case atStart => exact ⟨0, _, by omega, rfl, O6, D6⟩
      case round =>
        obtain ⟨i, ys, hi, rfl, Oi, Di⟩ := hrel
        by_cases hil : i < L.length
        · obtain ⟨g, cap, u0, u1, u2, hv, hB, hg, x0, x1, x2, f0, f1, f2⟩ := row_cells Oi.out hil
          obtain ⟨rfl, rfl⟩ : A4 = some ⟨g, 0, none⟩ ∧ c4 = cap := by injection hv with e1 e2 e3; exact ⟨e1, e3⟩
          clear hv
          go_wp2
          go_roundw
          case rel => exact ⟨i + 1, _, by omega, by go_num, Lib.hid (row_set (row_set (row_set Oi.out hB _ _) hB _ _) hB _ _), Lib.hid (((Di.out.setCell hB _).setCell hB _).setCell hB _)⟩
          case measure => simp [intOf]; omega
        · go_wp2
          go_roundw
          case rel => exact ⟨k + 1, by omega, by go_num, Lib.hid (X3.out.ext Di.out), Lib.hid (H3.out.ext Di.out), Lib.hid (W3.out.ext Di.out), Lib.hid (B3.out.trans (Di.out.mono hB3))⟩
          case measure => simp [intOf]; omega
    · go_wp2_with fail
      refine (same_any x v l l _ X3.out H3.out).mono ?_
      rintro e w4 ⟨rfl, hb⟩
      have B4 := Lib.hid (B3.out.trans (hb.mono B3.out.size))
      clear hb X3 H3 B3 W3
      rw [sameB_refl l]
      go_wp2_with fail
      refine (known_any _).mono ?_
      rintro e w5 ⟨rfl, hb⟩
      have B5 := Lib.hid (B4.out.trans (hb.mono B4.out.size))
      clear hb B4
      go_wp2
      go_ret
      exact ⟨rfl, B5.out⟩

end Go.Proofs.Ytpbnciioeiohlaa
