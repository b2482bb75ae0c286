/- arena.Stats, arena.Handles. -/
import Derived.Test.YtclmjnobacepjaaGreatJ30
import Derived.Test.YtclmjnobacepjaaGreatJ22
import Derived.Deep.RegionHeld3
import Derived.Deep.MidRow
namespace Go.Proofs.YtclmjnobacepjaaGreat
open Go.RowKit

/-- the arena and the result's box -/
def StB (w : World) (A : AF) (al fr st : Nat) (S X Y : List Nat) (f : Int → Option Value) (cnt : Nat) (W : World) : Prop :=
  Below w.heap.size w W ∧ Bk W A.ba #[.int .i64 1000, .pointer (some ⟨A.F.lb, 0, none⟩), .map (some A.mb), .int .i64 al, .int .i64 fr, .int .i64 st] 60 ∧ FL W A.F S X Y ∧ MapIs W A.mb f cnt ∧ ∃ cs : Array Value, Bk W w.heap.size cs 51 ∧ cs.size = 7
theorem StB.ext {w : World} {A : AF} {al fr st : Nat} {S X Y : List Nat} {f : Int → Option Value} {cnt : Nat} {W W' : World} (hb : Below W.heap.size W W') (h : StB w A al fr st S X Y f cnt W) : StB w A al fr st S X Y f cnt W' :=
  ⟨bcall h.1 hb, h.2.1.ext hb h.2.1.lt, h.2.2.1.ext hb, h.2.2.2.1.ext hb h.2.2.2.1.lt, by obtain ⟨cs, q, z⟩ := h.2.2.2.2; exact ⟨cs, q.ext hb q.lt, z⟩⟩
theorem StB.drew {w : World} {A : AF} {al fr st : Nat} {S X Y : List Nat} {f : Int → Option Value} {cnt : Nat} {W : World} (h : StB w A al fr st S X Y f cnt W) : StB w A al fr st S X Y f cnt W.drew := h.ext (bdr (Below.refl _ _))

theorem StB.set {w : World} {A : AF} {al fr st : Nat} {S X Y : List Nat} {f : Int → Option Value} {cnt : Nat} {W : World} (j : Nat) (u : Value) (h : StB w A al fr st S X Y f cnt W) : StB w A al fr st S X Y f cnt (W.setCell ⟨w.heap.size, j, none⟩ u) := by
  obtain ⟨h1, h2, h3, h4, cs, h5, h6⟩ := h
  have hn : ∀ b cs' t', Bk W b cs' t' → t' ≠ 51 → b ≠ w.heap.size := fun b cs' t' q hne => bk_ne q h5 hne
  obtain ⟨cur, hc, -⟩ := h3.stack
  refine ⟨h1.setCell (Nat.le_refl _) _, h2.other (hn _ _ _ h2 (by decide)), h3.keep (fun k hk => Below.heap_setCell _ _ _ _ ?_), h4.keep (Below.heap_setCell _ _ _ _ ?_), _, h5.set j u, by simpa using h6⟩
  · rcases hk with rfl | rfl | rfl | rfl
    · exact hn _ _ _ h3.list (by decide)
    · exact hn _ _ _ hc (by decide)
    · exact hn _ _ _ h3.states (by decide)
    · exact hn _ _ _ h3.gens (by decide)
  · intro e
    obtain ⟨n, D, ⟨es, cl, hq, -⟩, -⟩ := h4
    simp only at e
    rw [e] at hq
    unfold Bk at h5
    rw [h5] at hq
    cases hq
theorem seven_of {cs : Array Value} (h : cs.size = 7) : ∃ z0 z1 z2 z3 z4 z5 z6, cs = #[z0, z1, z2, z3, z4, z5, z6] := by
  obtain ⟨l⟩ := cs
  match l, h with
  | [a, b, c, d, e, f, g], _ => exact ⟨a, b, c, d, e, f, g, rfl⟩
@[irreducible] def zv (W : World) (b j : Nat) : Value := (W.cell? ⟨b, j, none⟩).getD undef
theorem bk_zv {W : World} {b : Nat} {cs : Array Value} {t : TypeId} (h : Bk W b cs t) {j : Nat} (hj : j < cs.size) : W.cell? ⟨b, j, none⟩ = some (zv W b j) := by
  unfold zv
  rw [h.cell, Array.getElem?_eq_getElem hj]; rfl

set_option maxHeartbeats 4000000 in
set_option maxRecDepth 100000 in
theorem stats_any (A : AF) (al fr st cnt : Nat) (S X Y : List Nat) (f : Int → Option Value) (w : World) (h1 : Bk w A.ba #[.int .i64 1000, .pointer (some ⟨A.F.lb, 0, none⟩), .map (some A.mb), .int .i64 al, .int .i64 fr, .int .i64 st] 60) (h2 : FL w A.F S X Y) (h3 : MapIs w A.mb f cnt) (hS : 1 ≤ S.length) (hX : ∀ x ∈ X, x < 256) :
    Calls Tryz.prog 14 #[.pointer (some ⟨A.ba, 0, none⟩)] w fun e w' => ∃ wd : Nat, e = .returned (.agg #[.int .i64 1000, .int .i64 S.length, .int .i64 cnt, .int .i64 wd, .int .i64 al, .int .i64 fr, .int .i64 st]) ∧ Below w.heap.size w w' := by
  have CF := Lib.hid (fun W (t : StB w A al fr st S X Y f cnt W) => free_any A.F S X Y W t.2.2.1 hS)
  have CW := Lib.hid (fun W (t : StB w A al fr st S X Y f cnt W) => withdrawn_any A.F S X Y W t.2.2.1 hX)
  have hT0 : StB w A al fr st S X Y f cnt (w.alloc (.cells #[.int .i64 0, .int .i64 0, .int .i64 0, .int .i64 0, .int .i64 0, .int .i64 0, .int .i64 0] 51)) := ⟨bal (Below.refl _ _), h1.alloc, h2.ext (bal (Below.refl _ _)), h3.alloc _, _, Bk.new _ _ _, rfl⟩
  have T00 := Lib.hid hT0
  clear h1 h2 h3 hS hX hT0
  go_enter Tryz.func14, Tryz.ntmps14
  go_upto_region 3 with (fail)
  generalize w.alloc (.cells #[.int .i64 0, .int .i64 0, .int .i64 0, .int .i64 0, .int .i64 0, .int .i64 0, .int .i64 0] 51) = W0 at *
  have KS : Hid (∀ W : World, StB w A al fr st S X Y f cnt W → Hid (StB w A al fr st S X Y f cnt W) ∧ W.cell? ⟨A.ba, 0, none⟩ = some (.int .i64 1000) ∧ W.cell? ⟨A.ba, 1, none⟩ = some (.pointer (some ⟨A.F.lb, 0, none⟩)) ∧ W.cell? ⟨A.ba, 2, none⟩ = some (.map (some A.mb)) ∧ W.cell? ⟨A.ba, 3, none⟩ = some (.int .i64 al) ∧ W.cell? ⟨A.ba, 4, none⟩ = some (.int .i64 fr) ∧ W.cell? ⟨A.ba, 5, none⟩ = some (.int .i64 st) ∧ (∀ ty, (Builtin.len_ #[58] ty #[.map (some A.mb)]).run Tryz.prog W = .ok (.int .i64 cnt) W) ∧ W.cell? ⟨w.heap.size, 0, none⟩ = some (zv W w.heap.size 0) ∧ W.cell? ⟨w.heap.size, 1, none⟩ = some (zv W w.heap.size 1) ∧ W.cell? ⟨w.heap.size, 2, none⟩ = some (zv W w.heap.size 2) ∧ W.cell? ⟨w.heap.size, 3, none⟩ = some (zv W w.heap.size 3) ∧ W.cell? ⟨w.heap.size, 4, none⟩ = some (zv W w.heap.size 4) ∧ W.cell? ⟨w.heap.size, 5, none⟩ = some (zv W w.heap.size 5) ∧ W.cell? ⟨w.heap.size, 6, none⟩ = some (zv W w.heap.size 6) ∧ W.frozen? ⟨w.heap.size, 0, none⟩ = false ∧ W.frozen? ⟨w.heap.size, 1, none⟩ = false ∧ W.frozen? ⟨w.heap.size, 2, none⟩ = false ∧ W.frozen? ⟨w.heap.size, 3, none⟩ = false ∧ W.frozen? ⟨w.heap.size, 4, none⟩ = false ∧ W.frozen? ⟨w.heap.size, 5, none⟩ = false ∧ W.frozen? ⟨w.heap.size, 6, none⟩ = false) := Lib.hid (fun W t => by
    obtain ⟨c0, c1, c2, c3, c4, c5, -⟩ := t.2.1.six
    obtain ⟨cs, hcs, hz⟩ := t.2.2.2.2
    exact ⟨Lib.hid t, c0, c1, c2, c3, c4, c5, fun ty => t.2.2.2.1.len Tryz.underlying58 ty, bk_zv hcs (by omega), bk_zv hcs (by omega), bk_zv hcs (by omega), bk_zv hcs (by omega), bk_zv hcs (by omega), bk_zv hcs (by omega), bk_zv hcs (by omega), hcs.free _, hcs.free _, hcs.free _, hcs.free _, hcs.free _, hcs.free _, hcs.free _⟩)
  have T0 := T00
  go_region_held3 (fun W => Hid (StB w A al fr st S X Y f cnt W) ∧ W.cell? ⟨A.ba, 0, none⟩ = some (.int .i64 1000) ∧ W.cell? ⟨A.ba, 1, none⟩ = some (.pointer (some ⟨A.F.lb, 0, none⟩)) ∧ W.cell? ⟨A.ba, 2, none⟩ = some (.map (some A.mb)) ∧ W.cell? ⟨A.ba, 3, none⟩ = some (.int .i64 al) ∧ W.cell? ⟨A.ba, 4, none⟩ = some (.int .i64 fr) ∧ W.cell? ⟨A.ba, 5, none⟩ = some (.int .i64 st) ∧ (∀ ty, (Builtin.len_ #[58] ty #[.map (some A.mb)]).run Tryz.prog W = .ok (.int .i64 cnt) W) ∧ W.cell? ⟨w.heap.size, 0, none⟩ = some (zv W w.heap.size 0) ∧ W.cell? ⟨w.heap.size, 1, none⟩ = some (zv W w.heap.size 1) ∧ W.cell? ⟨w.heap.size, 2, none⟩ = some (zv W w.heap.size 2) ∧ W.cell? ⟨w.heap.size, 3, none⟩ = some (zv W w.heap.size 3) ∧ W.cell? ⟨w.heap.size, 4, none⟩ = some (zv W w.heap.size 4) ∧ W.cell? ⟨w.heap.size, 5, none⟩ = some (zv W w.heap.size 5) ∧ W.cell? ⟨w.heap.size, 6, none⟩ = some (zv W w.heap.size 6) ∧ W.frozen? ⟨w.heap.size, 0, none⟩ = false ∧ W.frozen? ⟨w.heap.size, 1, none⟩ = false ∧ W.frozen? ⟨w.heap.size, 2, none⟩ = false ∧ W.frozen? ⟨w.heap.size, 3, none⟩ = false ∧ W.frozen? ⟨w.heap.size, 4, none⟩ = false ∧ W.frozen? ⟨w.heap.size, 5, none⟩ = false ∧ W.frozen? ⟨w.heap.size, 6, none⟩ = false)
    (first | with_reducible exact KS.out _ (StB.drew T0.out) | with_reducible exact KS.out _ T0.out | with_reducible (refine KS.out _ (StB.ext ?_ (StB.drew T0.out)); assumption) | with_reducible (apply KS.out; apply StB.ext; assumption; apply StB.ext; assumption; exact StB.drew T0.out) | with_reducible (apply KS.out; apply StB.set; apply StB.set; apply StB.set; apply StB.set; apply StB.set; apply StB.set; apply StB.set; apply StB.ext; assumption; apply StB.ext; assumption; exact StB.drew T0.out))
    (first
      | (go_at_call 29; ((with_reducible refine (CF.out _ ?_).mono ?_); (first | exact StB.drew T0.out | exact T0.out | (refine StB.ext ?_ (StB.drew T0.out); assumption) | assumption); rintro e w2 ⟨A2, c2, rfl, hb2⟩))
      | (go_at_call 30; ((with_reducible refine (CW.out _ ?_).mono ?_); (first | exact StB.drew T0.out | exact T0.out | (refine StB.ext ?_ (StB.drew T0.out); assumption) | assumption); rintro e w3 ⟨A3, n3, c3, rfl, hn3, hb3⟩)))
  all_goals
    have TT : StB w A al fr st S X Y f cnt w3 := by
      apply StB.ext; assumption; apply StB.ext; assumption; exact StB.drew T0.out
    obtain ⟨cs, hcs, hz⟩ := TT.2.2.2.2
    obtain ⟨z0, z1, z2, z3, z4, z5, z6, rfl⟩ := seven_of hz
    have hb9 : Bk (((((((w3.setCell ⟨w.heap.size, 0, none⟩ (.int .i64 1000)).setCell ⟨w.heap.size, 1, none⟩ (.int .i64 S.length)).setCell ⟨w.heap.size, 2, none⟩ (.int .i64 cnt)).setCell ⟨w.heap.size, 3, none⟩ (.int .i64 n3)).setCell ⟨w.heap.size, 4, none⟩ (.int .i64 al)).setCell ⟨w.heap.size, 5, none⟩ (.int .i64 fr)).setCell ⟨w.heap.size, 6, none⟩ (.int .i64 st)) w.heap.size #[.int .i64 1000, .int .i64 S.length, .int .i64 cnt, .int .i64 n3, .int .i64 al, .int .i64 fr, .int .i64 st] 51 := ((((((hcs.set 0 _).set 1 _).set 2 _).set 3 _).set 4 _).set 5 _).set 6 _
    have hB9 : Below w.heap.size w (((((((w3.setCell ⟨w.heap.size, 0, none⟩ (.int .i64 1000)).setCell ⟨w.heap.size, 1, none⟩ (.int .i64 S.length)).setCell ⟨w.heap.size, 2, none⟩ (.int .i64 cnt)).setCell ⟨w.heap.size, 3, none⟩ (.int .i64 n3)).setCell ⟨w.heap.size, 4, none⟩ (.int .i64 al)).setCell ⟨w.heap.size, 5, none⟩ (.int .i64 fr)).setCell ⟨w.heap.size, 6, none⟩ (.int .i64 st)) := bset (bset (bset (bset (bset (bset (bset TT.1 (Nat.le_refl _)) (Nat.le_refl _)) (Nat.le_refl _)) (Nat.le_refl _)) (Nat.le_refl _)) (Nat.le_refl _)) (Nat.le_refl _)
    generalize (((((((w3.setCell ⟨w.heap.size, 0, none⟩ (.int .i64 1000)).setCell ⟨w.heap.size, 1, none⟩ (.int .i64 S.length)).setCell ⟨w.heap.size, 2, none⟩ (.int .i64 cnt)).setCell ⟨w.heap.size, 3, none⟩ (.int .i64 n3)).setCell ⟨w.heap.size, 4, none⟩ (.int .i64 al)).setCell ⟨w.heap.size, 5, none⟩ (.int .i64 fr)).setCell ⟨w.heap.size, 6, none⟩ (.int .i64 st)) = W9 at *
    obtain ⟨y0, y1, y2, y3, y4, y5, y6, -⟩ := hb9.seven
    go_wp2_with fail
    exact bodyPost_ret (v := .agg #[.int .i64 1000, .int .i64 S.length, .int .i64 cnt, .int .i64 n3, .int .i64 al, .int .i64 fr, .int .i64 st]) (by simp [results, Tryz.results14, go_sem, y0, y1, y2, y3, y4, y5, y6]) rfl ⟨n3, rfl, hB9⟩

/-- .. of the arena, nothing having been freed -/
theorem ArM.stats {A : AF} {G : Ar} {w : World} (h : ArM w A G) (hn : G.length ≤ 999) :
    Calls Tryz.prog 14 #[.pointer (some ⟨A.ba, 0, none⟩)] w fun e w' => ∃ wd : Nat, e = .returned (.agg #[.int .i64 1000, .int .i64 (1000 - G.length : Nat), .int .i64 G.length, .int .i64 wd, .int .i64 G.length, .int .i64 0, .int .i64 0]) ∧ Below w.heap.size w w' := by
  obtain ⟨f, h1, -⟩ := h.map
  have hl : (stk G.length).length = 1000 - G.length := by simp [stk]
  have := stats_any A G.length 0 0 G.length (stk G.length) (stt G.length) (List.replicate 1000 1) f w h.ar h.fl h1 (by rw [hl]; omega) (fun x hx => by
    unfold stt at hx
    rcases List.mem_append.1 hx with q | q
    · rw [(List.mem_replicate.1 q).2]; omega
    · rw [(List.mem_replicate.1 q).2]; omega)
  rw [hl] at this
  exact this
end Go.Proofs.YtclmjnobacepjaaGreat
