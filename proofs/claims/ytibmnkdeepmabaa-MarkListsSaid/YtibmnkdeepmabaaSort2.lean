/- The function value of mark.Between: what it returns. No condition. -/
import Derived.Test.YtibmnkdeepmabaaSort1
namespace Go.Proofs.Ytibmnkdeepmabaa
open Go.RowKit Go.Sort

theorem box2 (w : World) (x y : Value) (t : TypeId) : (w.alloc (.cells #[x, y] t)).drew.cell? ⟨w.heap.size, 0, none⟩ = some x ∧ (w.alloc (.cells #[x, y] t)).drew.cell? ⟨w.heap.size, 1, none⟩ = some y := by
  change (w.alloc (.cells #[x, y] t)).cell? _ = _ ∧ (w.alloc (.cells #[x, y] t)).cell? _ = _
  refine ⟨?_, ?_⟩ <;> (rw [Lib.cell_of_heap (heap_alloc_new w _)]; rfl)

set_option maxHeartbeats 400000 in
set_option maxRecDepth 100000 in
theorem btwC_any (x y : Mk) (w : World) : Calls Try.prog 43 #[x.v, y.v] w fun e w' => e = .returned (.int .i64 (cf9 x y)) ∧ GW w w' := by
  have cI := compare_int x.a y.a
  have cU := compare_u32 x.id y.id
  have cO := or_two (cmpI x.a y.a) (cmpI x.id y.id)
  rw [show (if cmpI x.a y.a = 0 then cmpI x.id y.id else cmpI x.a y.a) = cf9 x y from rfl] at cO
  generalize cf9 x y = r at *
  generalize cmpI x.a y.a = ra at *
  generalize cmpI x.id y.id = ru at *
  have hb1 := fun t => box3 w x t
  have hb2 := fun t o => box3 (w.alloc o) y t
  have cf := fun (o o' : Obj) => GW.alloc (GW.alloc (GW.refl w) o) o'
  obtain ⟨xi, xa, xg⟩ := x
  obtain ⟨yi, ya, yg⟩ := y
  unfold Mk.v
  simp only at *
  have CI := Lib.hid cI; have CU := Lib.hid cU; have CO := Lib.hid cO; have HB1 := Lib.hid hb1; have HB2 := Lib.hid hb2; have CF := Lib.hid cf
  clear cI cU cO hb1 hb2 cf
  go_enter Try.func43, Try.ntmps43
  go_upto_region 1 with (fail)
  have g00 := Lib.hid ((CF.out (.cells #[.int .u32 xi, .int .i64 xa, .int .u8 xg] 32) (.cells #[.int .u32 yi, .int .i64 ya, .int .u8 yg] 32)))
  obtain ⟨x0, x1, -⟩ := HB1.out 32
  obtain ⟨y0, y1, -⟩ := HB2.out 32 (.cells #[.int .u32 xi, .int .i64 xa, .int .u8 xg] 32)
  replace x0 := Lib.cell?_alloc_some (.cells #[.int .u32 yi, .int .i64 ya, .int .u8 yg] 32) x0
  replace x1 := Lib.cell?_alloc_some (.cells #[.int .u32 yi, .int .i64 ya, .int .u8 yg] 32) x1
  rw [World.size_alloc] at y0 y1
  clear HB1 HB2 CF
  generalize (w.alloc (.cells #[.int .u32 xi, .int .i64 xa, .int .u8 xg] 32)).alloc (.cells #[.int .u32 yi, .int .i64 ya, .int .u8 yg] 32) = W0 at *
  have g0 := Lib.hid (GW.drew g00.out)
  have d0 : W0.drew.cell? ⟨w.heap.size, 0, none⟩ = some (.int .u32 xi) := x0
  have d1 : W0.drew.cell? ⟨w.heap.size, 1, none⟩ = some (.int .i64 xa) := x1
  have d2 : W0.drew.cell? ⟨w.heap.size + 1, 0, none⟩ = some (.int .u32 yi) := y0
  have d3 : W0.drew.cell? ⟨w.heap.size + 1, 1, none⟩ = some (.int .i64 ya) := y1
  have e0 : Hid (∀ o, (W0.alloc o).drew.cell? ⟨w.heap.size, 0, none⟩ = some (.int .u32 xi)) := fun o => Lib.cell?_alloc_some o x0
  have e1 : Hid (∀ o, (W0.alloc o).drew.cell? ⟨w.heap.size, 1, none⟩ = some (.int .i64 xa)) := fun o => Lib.cell?_alloc_some o x1
  have e2 : Hid (∀ o, (W0.alloc o).drew.cell? ⟨w.heap.size + 1, 0, none⟩ = some (.int .u32 yi)) := fun o => Lib.cell?_alloc_some o y0
  have e3 : Hid (∀ o, (W0.alloc o).drew.cell? ⟨w.heap.size + 1, 1, none⟩ = some (.int .i64 ya)) := fun o => Lib.cell?_alloc_some o y1
  clear x0 x1 y0 y1
  go_region_held3 (fun W => Hid (GW w W) ∧ W.cell? ⟨w.heap.size, 0, none⟩ = some (.int .u32 xi) ∧ W.cell? ⟨w.heap.size, 1, none⟩ = some (.int .i64 xa) ∧ W.cell? ⟨w.heap.size + 1, 0, none⟩ = some (.int .u32 yi) ∧ W.cell? ⟨w.heap.size + 1, 1, none⟩ = some (.int .i64 ya))
    (refine ⟨?_, ?_, ?_, ?_, ?_⟩ <;> first | assumption | exact And.left (by assumption) | exact Lib.hid (GW.drew (GW.alloc (Hid.out g00) _)) | exact e0.out _ | exact e1.out _ | exact e2.out _ | exact e3.out _ | (simp [*]; done))
    (first
      | (go_at_call 45; refine (CI.out _).mono ?_; rintro e w' ⟨rfl, rfl⟩)
      | (go_at_call 46; refine (CU.out _).mono ?_; rintro e w' ⟨rfl, rfl⟩)
      | (go_at_call 44; refine (CO.out _ _ (box2 _ _ _ _).1 (box2 _ _ _ _).2).mono ?_; rintro e w' ⟨rfl, rfl⟩))
  all_goals go_wp2_with fail
  all_goals go_ret
  all_goals exact ⟨rfl, Hid.out (And.left (by assumption))⟩

end Go.Proofs.Ytibmnkdeepmabaa
