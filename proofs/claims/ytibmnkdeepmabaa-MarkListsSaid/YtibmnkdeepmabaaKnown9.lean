/- quartolaw09.known: what it returns. No condition. -/
import Derived.Test.YtibmnkdeepmabaaSort4
import Derived.Test.YtibmnkdeepmabaaMark5
namespace Go.Proofs.Ytibmnkdeepmabaa
open Go.RowKit Go.Sort

theorem sl_freshM (w : World) (l : List Mk) (t : TypeId) (h : l.length ≤ maxLen) : Sl mkE (w.alloc (.cells (mkE.flat l).toArray t)) (.slice (some ⟨w.heap.size, 0, none⟩) l.length l.length) l := by
  refine ⟨_, _, rfl, Nat.le_refl _, h, fun _ => ⟨_, _, rfl, by simp, fun i j x u hx hu => ?_⟩⟩
  rw [Lib.cell_of_heap (heap_alloc_new w _), Nat.zero_add]
  simpa using mkE.flat_at l i j x u hx hu
theorem sl_freshP (w : World) (l : List Pc) (t : TypeId) (h : l.length ≤ maxLen) : Sl pcE (w.alloc (.cells (pcE.flat l).toArray t)) (.slice (some ⟨w.heap.size, 0, none⟩) l.length l.length) l := by
  refine ⟨_, _, rfl, Nat.le_refl _, h, fun _ => ⟨_, _, rfl, by simp, fun i j x u hx hu => ?_⟩⟩
  rw [Lib.cell_of_heap (heap_alloc_new w _), Nat.zero_add]
  simpa using pcE.flat_at l i j x u hx hu

def l9 : List Mk := [⟨1, 3, 0⟩, ⟨5, 3, 1⟩, ⟨9, 0, 0⟩]
def s9 : List Mk := [⟨1, 3, 0⟩, ⟨5, 7, 0⟩, ⟨9, 0, 0⟩]
def t9 : List Mk := [⟨1, 3, 0⟩, ⟨5, 5, 1⟩, ⟨9, 0, 0⟩]
def b9 : List Mk := [⟨9, 0, 0⟩, ⟨1, 3, 0⟩, ⟨5, 3, 1⟩]
def e9 : List Pc := [⟨1, 3, []⟩, ⟨2, 0, [97, 98]⟩]
theorem wf_l9 : ∀ m, m ∈ l9 → m.wf := by
  intro m hm
  simp [l9] at hm
  rcases hm with rfl | rfl | rfl <;> (unfold Mk.wf; simp)
theorem wf_e9 : ∀ p, p ∈ e9 → p.wf := wf_of_err (by decide)
theorem k1 : chkM 9223372036854775807 l9 = 0 := by decide
theorem k2 : chkM 9223372036854775807 [⟨5, 7, 0⟩] = 0 := by decide
theorem k3 : hasB 5 l9 = true := by decide
theorem k4 : l9.set (plc 5 l9) ⟨5, 7, 0⟩ = s9 := by decide
theorem k5 : hasB 2 l9 = false := by decide
theorem k6 : fndR 9 l9 = ⟨9, 0, 0⟩ ∧ fndB 9 l9 = true := by decide
theorem k7 : errL e9 = 0 := by decide
theorem k8 : chkM (inL e9) l9 = 0 := by decide
theorem k9 : l9.map (shM e9) = t9 := by decide
theorem k10 : inR 0 3 l9 = l9 := by decide
theorem k11 : Stab l9 b9 := by
  refine ⟨by decide, fun a i => ?_⟩
  exact (kf_swap a i [] [⟨5, 3, 1⟩] ⟨1, 3, 0⟩ ⟨9, 0, 0⟩ (by decide)).trans (kf_swap a i [⟨1, 3, 0⟩] [] ⟨5, 3, 1⟩ ⟨9, 0, 0⟩ (by decide))
theorem k12 : chkM 3 l9 = 0 := by decide
theorem k13 : chkM 2 l9 = 3 := by decide

theorem own_cell {w : World} {B n : Nat} {e : TypeId} {v : Value} {xs : List Value} (h : w.ownsRow B e 3 v n xs) (hn : 0 < n) : ∃ b c, v = .slice (some ⟨b, 0, none⟩) n c ∧ b < w.heap.size ∧ ∀ j, j < n * 3 → w.cell? ⟨b, j, none⟩ = xs[j]? := by
  obtain ⟨b, c, rfl, -, hb⟩ := h.form hn
  exact ⟨b, c, rfl, hb, fun j hj => h.cellAt j hj⟩

theorem kS (v : Value) (w : World) (h : Sl mkE w v l9) : Calls Try.prog 18 #[v, (⟨5, 7, 0⟩ : Mk).v] w fun e w' => ∃ b c, e = .returned (.tuple #[.slice (some ⟨b, 0, none⟩) 3 c, .int .i64 0]) ∧ b < w'.heap.size ∧ w'.cell? ⟨b, 4, none⟩ = some (.int .i64 7) ∧ Below w.heap.size w w' := by
  refine (set_found v l9 ⟨5, 7, 0⟩ w h wf_l9 (by unfold Mk.wf; simp) k1 k2 k3).mono ?_
  rintro e w' ⟨v', rfl, ho, hb⟩
  obtain ⟨b, c, rfl, h1, h2⟩ := own_cell ho (by decide)
  rw [k4] at h2
  exact ⟨b, c, rfl, h1, h2 4 (by decide), hb⟩
theorem kD (v : Value) (w : World) (h : Sl mkE w v l9) : Calls Try.prog 19 #[v, .int .u32 2] w fun e w' => e = .returned (.tuple #[.slice none 0 0, .int .i64 7]) ∧ Below w.heap.size w w' :=
  drop_none v l9 2 w h wf_l9 k1 k5
theorem kF (v : Value) (w : World) (h : Sl mkE w v l9) : Calls Try.prog 20 #[v, .int .u32 9] w fun e w' => e = .returned (.tuple #[.agg #[.int .u32 9, .int .i64 0, .int .u8 0], .bool true]) ∧ Below w.heap.size w w' := by
  have := find9_any v l9 9 w h
  rw [k6.1, k6.2] at this
  exact this
theorem kT (v vd : Value) (w : World) (h : Sl mkE w v l9) (h2 : Sl pcE w vd e9) : Calls Try.prog 23 #[v, vd] w fun e w' => ∃ b c, e = .returned (.tuple #[.slice (some ⟨b, 0, none⟩) 3 c, .int .i64 0]) ∧ b < w'.heap.size ∧ w'.cell? ⟨b, 1, none⟩ = some (.int .i64 3) ∧ w'.cell? ⟨b, 4, none⟩ = some (.int .i64 5) ∧ Below w.heap.size w w' := by
  refine (shift_ok v vd l9 e9 w h wf_l9 h2 wf_e9 k7 k8).mono ?_
  rintro e w' ⟨v', rfl, ho, hb⟩
  obtain ⟨b, c, rfl, h1, h2⟩ := own_cell ho (by decide)
  rw [k9] at h2
  exact ⟨b, c, rfl, h1, h2 1 (by decide), h2 4 (by decide), hb⟩
theorem kB (v : Value) (w : World) (h : Sl mkE w v l9) : Calls Try.prog 26 #[v, .int .i64 0, .int .i64 3] w fun e w' => ∃ b c, e = .returned (.slice (some ⟨b, 0, none⟩) 3 c) ∧ b < w'.heap.size ∧ w'.cell? ⟨b, 0, none⟩ = some (.int .u32 9) ∧ w'.cell? ⟨b, 6, none⟩ = some (.int .u32 5) ∧ Below w.heap.size w w' := by
  have := between_any v l9 0 3 w h (by decide) (sort_small _ (by rw [k10]; decide))
  rw [k10] at this
  refine this.mono ?_
  rintro e w' ⟨v', S, rfl, hs, ho, hb⟩
  obtain rfl : S = b9 := hs.uniq k11
  obtain ⟨b, c, rfl, h1, h2⟩ := own_cell ho (by decide)
  exact ⟨b, c, rfl, h1, h2 0 (by decide), h2 6 (by decide), hb⟩
theorem kC3 (v : Value) (w : World) (h : Sl mkE w v l9) : Calls Try.prog 12 #[.int .i64 3, v] w fun e w' => e = .returned (.int .i64 0) ∧ Below w.heap.size w w' := by
  have := mcheck_any 3 v l9 w h wf_l9
  rw [k12] at this
  exact this
theorem kC2 (v : Value) (w : World) (h : Sl mkE w v l9) : Calls Try.prog 12 #[.int .i64 2, v] w fun e w' => e = .returned (.int .i64 3) ∧ Below w.heap.size w w' := by
  have := mcheck_any 2 v l9 w h wf_l9
  rw [k13] at this
  exact this

set_option maxHeartbeats 8000000 in
set_option maxRecDepth 100000 in
theorem known9_any (w : World) :
    Calls Try.prog 15 #[] w fun e w' => e = .returned (.bool true) ∧ Below w.heap.size w w' := by
  have A0 := Lib.hid (sl_freshM w l9 32 (by decide))
  have L0 := Lib.hid ((Below.refl w.heap.size w).alloc (Nat.le_refl _) (.cells (mkE.flat l9).toArray 32))
  go_enter Try.func15, Try.ntmps15
  go_wp2_with fail
  refine (kS _ _ A0.out).mono ?_
  rintro e w1 ⟨bs, cs, rfl, s0, s1, hb⟩
  have A1 := Lib.hid (A0.out.ext hb)
  have L1 := Lib.hid (L0.out.trans (hb.mono L0.out.size))
  clear hb A0 L0
  go_wp2_with fail
  refine (kD _ _ A1.out).mono ?_
  rintro e w2 ⟨rfl, hb⟩
  have A2 := Lib.hid (A1.out.ext hb)
  have L2 := Lib.hid (L1.out.trans (hb.mono L1.out.size))
  have s2 := (hb.cell (p := ⟨bs, 4, none⟩) s0).trans s1
  replace s0 := Nat.lt_of_lt_of_le s0 hb.size
  clear hb A1 L1 s1
  go_wp2_with fail
  refine (kF _ _ A2.out).mono ?_
  rintro e w3 ⟨rfl, hb⟩
  have A3 := Lib.hid ((A2.out.ext hb).alloc (.cells #[.int .u32 9, .int .i64 0, .int .u8 0] 32))
  have L3 := Lib.hid ((L2.out.trans (hb.mono L2.out.size)).alloc (Nat.le_trans L2.out.size hb.size) (.cells #[.int .u32 9, .int .i64 0, .int .u8 0] 32))
  have s3 := Lib.cell?_alloc_some (.cells #[.int .u32 9, .int .i64 0, .int .u8 0] 32) ((hb.cell (p := ⟨bs, 4, none⟩) s0).trans s2)
  replace s0 := Nat.lt_of_lt_of_le s0 hb.size
  clear hb A2 L2 s2
  have A4 := Lib.hid (A3.out.alloc (.cells (pcE.flat e9).toArray 53))
  have P4 := Lib.hid (sl_freshP (w3.alloc (.cells #[.int .u32 9, .int .i64 0, .int .u8 0] 32)) e9 53 (by decide))
  rw [World.size_alloc] at P4
  have L4 := Lib.hid (L3.out.alloc L3.out.size (.cells (pcE.flat e9).toArray 53))
  have s4 := Lib.cell?_alloc_some (.cells (pcE.flat e9).toArray 53) s3
  have x4 := Lib.cell?_alloc_some (.cells (pcE.flat e9).toArray 53) (box3 w3 ⟨9, 0, 0⟩ 32).1
  have S4 := Lib.hid s4; have X4 := Lib.hid x4
  clear A3 L3 s3 s4 x4
  go_wp2_with fail
  refine (kT _ _ _ A4.out P4.out).mono ?_
  rintro e w5 ⟨bt, ct, rfl, t0, t1, t2, hb⟩
  have A5 := Lib.hid (A4.out.ext hb)
  have L5 := Lib.hid (L4.out.trans (hb.mono L4.out.size))
  have s5 := (hb.cell (p := ⟨bs, 4, none⟩) (by simp; omega)).trans S4.out
  have x5 := (hb.cell (p := ⟨w3.heap.size, 0, none⟩) (by simp; omega)).trans X4.out
  have s0' : bs < w5.heap.size := Nat.lt_of_lt_of_le (by simp; omega) hb.size
  have x0' : w3.heap.size < w5.heap.size := Nat.lt_of_lt_of_le (by simp; omega) hb.size
  clear hb A4 L4 S4 X4 P4
  go_wp2_with fail
  refine (kB _ _ A5.out).mono ?_
  rintro e w6 ⟨bb, cb, rfl, b0, b1, b2, hb⟩
  have A6 := Lib.hid (A5.out.ext hb)
  have L6 := Lib.hid (L5.out.trans (hb.mono L5.out.size))
  have s6 := (hb.cell (p := ⟨bs, 4, none⟩) s0').trans s5
  have x6 := (hb.cell (p := ⟨w3.heap.size, 0, none⟩) x0').trans x5
  have u6 := (hb.cell (p := ⟨bt, 1, none⟩) t0).trans t1
  have v6 := (hb.cell (p := ⟨bt, 4, none⟩) t0).trans t2
  replace s0' := Nat.lt_of_lt_of_le s0' hb.size
  replace x0' := Nat.lt_of_lt_of_le x0' hb.size
  replace t0 := Nat.lt_of_lt_of_le t0 hb.size
  clear hb A5 L5 s5 x5 t1 t2
  go_wp2_with fail
  refine (kC3 _ _ A6.out).mono ?_
  rintro e w7 ⟨rfl, hb⟩
  have A7 := Lib.hid (A6.out.ext hb)
  have L7 := Lib.hid (L6.out.trans (hb.mono L6.out.size))
  have s7 := (hb.cell (p := ⟨bs, 4, none⟩) s0').trans s6
  have x7 := (hb.cell (p := ⟨w3.heap.size, 0, none⟩) x0').trans x6
  have u7 := (hb.cell (p := ⟨bt, 1, none⟩) t0).trans u6
  have v7 := (hb.cell (p := ⟨bt, 4, none⟩) t0).trans v6
  have y7 := (hb.cell (p := ⟨bb, 0, none⟩) b0).trans b1
  have z7 := (hb.cell (p := ⟨bb, 6, none⟩) b0).trans b2
  replace s0' := Nat.lt_of_lt_of_le s0' hb.size
  replace x0' := Nat.lt_of_lt_of_le x0' hb.size
  replace t0 := Nat.lt_of_lt_of_le t0 hb.size
  replace b0 := Nat.lt_of_lt_of_le b0 hb.size
  clear hb A6 L6 s6 x6 u6 v6 b1 b2
  go_wp2_with fail
  refine (kC2 _ _ A7.out).mono ?_
  rintro e w8 ⟨rfl, hb⟩
  have L8 := Lib.hid (L7.out.trans (hb.mono L7.out.size))
  have s8 := (hb.cell (p := ⟨bs, 4, none⟩) s0').trans s7
  have x8 := (hb.cell (p := ⟨w3.heap.size, 0, none⟩) x0').trans x7
  have u8 := (hb.cell (p := ⟨bt, 1, none⟩) t0).trans u7
  have v8 := (hb.cell (p := ⟨bt, 4, none⟩) t0).trans v7
  have y8 := (hb.cell (p := ⟨bb, 0, none⟩) b0).trans y7
  have z8 := (hb.cell (p := ⟨bb, 6, none⟩) b0).trans z7
  clear hb A7 L7 s7 x7 u7 v7 y7 z7
  go_wp2
  go_ret
  exact ⟨rfl, L8.out⟩

end Go.Proofs.Ytibmnkdeepmabaa
