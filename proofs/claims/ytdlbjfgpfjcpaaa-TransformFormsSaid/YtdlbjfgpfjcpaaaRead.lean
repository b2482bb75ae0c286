/- compose's read: a reader of a copy; what two readers and a row are to one another. Condition: the list's size. -/
import Derived.Test.YtdlbjfgpfjcpaaaTake2
namespace Go.Proofs.Ytdlbjfgpfjcpaaa
open Go.RowKit

set_option maxHeartbeats 1000000 in
set_option maxRecDepth 100000 in
theorem read_any (v : Value) (l : List Pc) (w : World) (h : Sl pcE w v l) (hl : l.length * 32 ≤ 140737488355328) :
    Calls Try.prog 96 #[v] w fun e w' => ∃ b d, e = .returned (.pointer (some ⟨b, 0, none⟩)) ∧ Rd w' b d l ∧ w.heap.size ≤ d ∧ d < b ∧ b < w'.heap.size ∧ Below w.heap.size w w' := by
  obtain ⟨i0, hi, hz0, hz1, hz2⟩ := info_parts infoPiece
  have Hl := Lib.hid hl; clear hl
  obtain ⟨A, cap, rfl, -, -, -⟩ := id h
  go_enter Try.func96, Try.ntmps96
  go_wp2_with (
    at_builtin
    refine wpList_append _ rfl (.tmp 3) (.tmp 4) 22 22 rfl 31 i0 _ 3 32 Try.underlying22 hi hz0 hz1 hz2 rfl (by decide) _ _ _ rfl (World.ownsRow_made w #[] 0 (Nat.zero_le _) (by simp [maxLen]) (by simp)) _ _ _ rfl ((h.alloc _).src Try.underlying22) ?_ ?_ ?_
    · have := Hl.out; unfold maxLen; omega
    · have := Hl.out; omega
    intro A5 c5 w5 hown5 hg5 hat5 _
    have HO := Lib.hid hown5; have HG := Lib.hid hg5; have HA := Lib.hid hat5
    clear hown5 hg5 hat5)
  go_ret
  have hs5 := HG.out.size
  simp at hs5
  have hB5 : Below w.heap.size w w5 := ((Below.refl _ _).alloc (Nat.le_refl _) _).grown HG.out (by simp) (fun k hk => by
    have h9 : some w.heap.size = some k := hk
    injection h9 with h9
    omega)
  have hown := HO.out
  rw [List.nil_append, Nat.zero_add] at hown
  have hat := HA.out
  rcases hown.2 with ⟨e, e0⟩ | ⟨g, cap', cur, e, _, hg, hnc, hcm, hcs, htake⟩
  · have e1 : l = [] := List.eq_nil_of_length_eq_zero e0
    subst e1
    injection e with e1 e2 e3
    subst e1 e3
    refine ⟨_, w.heap.size, rfl, ⟨none, 0, ?_, Nat.le_refl _, by simp [maxLen], fun hh => absurd rfl hh⟩, Nat.le_refl _, by omega, by simp, hB5.alloc (by omega) _⟩
    exact heap_alloc_new w5 _
  · injection e with e1 e2 e3
    subst e1 e3
    have hgb : w.heap.size ≤ g := by
      rcases hat with e | e
      · rw [Nat.zero_add] at e
        have h9 : some g = some w.heap.size := e
        injection h9 with h9
        omega
      · rw [Nat.zero_add] at e
        have h9 : some g = some (w.heap.size + 1) := e.trans (by simp)
        injection h9 with h9
        omega
    have hg5 := heap_lt hg
    refine ⟨_, g, rfl, ⟨some ⟨g, 0, none⟩, c5, ?_, hnc, hcm, fun _ => ⟨0, rfl, cur, (Below.heap_alloc w5 _ g hg5).trans hg, fun i j x u hx hu => ?_⟩⟩, hgb, hg5, by simp, hB5.alloc (by omega) _⟩
    · exact heap_alloc_new w5 _
    · have h5 := pcE.flat_at l _ _ _ _ hx hu
      rw [← htake] at h5
      have h6 := (List.getElem?_eq_some_iff.1 h5).1
      rw [List.length_take] at h6
      rw [List.getElem?_take_of_lt (by omega)] at h5
      rw [Nat.zero_add, ← Array.getElem?_toList]
      exact h5

/-- two readers, a row of the call's own, and what was there before -/
structure CS (w0 : World) (B1 b1 d1 b2 d2 : Nat) (X Y O : List Pc) (A : Option Addr) (c : Nat) (w : World) : Prop where
  x : Rd w b1 d1 X
  y : Rd w b2 d2 Y
  o : w.ownsRow B1 31 3 (.slice A O.length c) O.length (pcE.flat O)
  b : Below w0.heap.size w0 w
  s : w0.heap.size ≤ d1 ∧ d1 < b1 ∧ b1 < d2 ∧ d2 < b2 ∧ b2 < B1 ∧ B1 ≤ w.heap.size
theorem CS.ext {w0 : World} {B1 b1 d1 b2 d2 : Nat} {X Y O : List Pc} {A : Option Addr} {c : Nat} {w w' : World} (h : CS w0 B1 b1 d1 b2 d2 X Y O A c w) (hb : Below w.heap.size w w') : CS w0 B1 b1 d1 b2 d2 X Y O A c w' := by
  obtain ⟨x, y, o, b, s⟩ := h
  have := hb.size
  exact ⟨x.ext hb, y.ext hb, own_keepB o (Fr.of_below (T := fun _ => False) hb) (fun _ _ h => h.elim), b.trans (hb.mono b.size), by omega⟩
theorem CS.stepX {w0 : World} {B1 b1 d1 b2 d2 : Nat} {X X' Y O : List Pc} {A : Option Addr} {c : Nat} {w w' : World} (h : CS w0 B1 b1 d1 b2 d2 X Y O A c w) (hr : Rd w' b1 d1 X') (hf : Fr (fun k => k = b1 ∨ k = d1) w w') : CS w0 B1 b1 d1 b2 d2 X' Y O A c w' := by
  obtain ⟨x, y, o, b, s⟩ := h
  have := hf.size
  refine ⟨hr, y.keep hf (by omega) (by omega), own_keepB o hf (fun g hg => ?_), b.trans (hf.below b.size (fun k hk => by omega)), by omega⟩
  have := (o.lt g hg).1
  omega
theorem CS.stepY {w0 : World} {B1 b1 d1 b2 d2 : Nat} {X Y Y' O : List Pc} {A : Option Addr} {c : Nat} {w w' : World} (h : CS w0 B1 b1 d1 b2 d2 X Y O A c w) (hr : Rd w' b2 d2 Y') (hf : Fr (fun k => k = b2 ∨ k = d2) w w') : CS w0 B1 b1 d1 b2 d2 X Y' O A c w' := by
  obtain ⟨x, y, o, b, s⟩ := h
  have := hf.size
  refine ⟨x.keep hf (by omega) (by omega), hr, own_keepB o hf (fun g hg => ?_), b.trans (hf.below b.size (fun k hk => by omega)), by omega⟩
  have := (o.lt g hg).1
  omega
theorem CS.app {w0 : World} {B1 b1 d1 b2 d2 : Nat} {X Y O O' : List Pc} {A A' : Option Addr} {c c' : Nat} {w w' : World} (h : CS w0 B1 b1 d1 b2 d2 X Y O A c w) (ho : w'.ownsRow B1 31 3 (.slice A' O'.length c') O'.length (pcE.flat O')) (hg : w.grownBy w' (Value.slice A O.length c).ownBlock) : CS w0 B1 b1 d1 b2 d2 X Y O' A' c' w' := by
  obtain ⟨x, y, o, b, s⟩ := h
  have hf := Fr.of_grown hg
  have := hf.size
  have hk : ∀ k, some k = (Value.slice A O.length c).ownBlock → B1 ≤ k := fun k hk => (o.lt k hk.symm).1
  refine ⟨x.keep hf (fun e => by have := hk _ e; omega) (fun e => by have := hk _ e; omega), y.keep hf (fun e => by have := hk _ e; omega) (fun e => by have := hk _ e; omega), ho, b.trans (hf.below b.size (fun k e => by have := hk _ e; omega)), by omega⟩

end Go.Proofs.Ytdlbjfgpfjcpaaa
