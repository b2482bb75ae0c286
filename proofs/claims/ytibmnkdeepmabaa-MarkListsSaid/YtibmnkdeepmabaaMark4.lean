/- mark.Set where the mark is refused, found, or too many stand there; mark.Drop where nothing is dropped: what they return. Condition: the marks read as values of their type. -/
import Derived.Test.YtibmnkdeepmabaaMark3
namespace Go.Proofs.Ytibmnkdeepmabaa
open Go.RowKit

theorem Sl.new1 (w : World) (m : Mk) (t : TypeId) : Sl mkE (w.alloc (.cells #[.int .u32 m.id, .int .i64 m.a, .int .u8 m.g] t)) (.slice (some ⟨w.heap.size, 0, none⟩) 1 1) [m] :=
  Sl.of_own (base := 0) (World.ownsRow_lit w #[.int .u32 m.id, .int .i64 m.a, .int .u8 m.g] 1 (Nat.zero_le _) (by simp [maxLen]) rfl)

theorem new_cells_at {α : Type} {E : Enc α} (w : World) (n : Nat) (hn : w.heap.size = n) (x : α) (t : TypeId) : ∀ j u, (E.cells x)[j]? = some u → (w.alloc (.cells (E.cells x).toArray t)).cell? ⟨n, 0 + j, none⟩ = some u := by
  subst hn
  exact new_cells w x t

theorem below_one {w w2 : World} {o1 : Obj} (hb : Below (w.alloc o1).heap.size (w.alloc o1) w2) : Below w.heap.size w w2 :=
  ((Below.refl _ _).alloc (Nat.le_refl _) _).trans (hb.mono (by simp))
theorem box3 (w : World) (m : Mk) (t : TypeId) : (w.alloc (.cells #[.int .u32 m.id, .int .i64 m.a, .int .u8 m.g] t)).cell? ⟨w.heap.size, 0, none⟩ = some (.int .u32 m.id) ∧ (w.alloc (.cells #[.int .u32 m.id, .int .i64 m.a, .int .u8 m.g] t)).cell? ⟨w.heap.size, 1, none⟩ = some (.int .i64 m.a) ∧ (w.alloc (.cells #[.int .u32 m.id, .int .i64 m.a, .int .u8 m.g] t)).cell? ⟨w.heap.size, 2, none⟩ = some (.int .u8 m.g) := by
  refine ⟨?_, ?_, ?_⟩ <;> (rw [Lib.cell_of_heap (heap_alloc_new w _)]; rfl)

/-- the cells of a list whose element i is put anew -/
theorem flat_set3 : ∀ (l : List Mk) (i : Nat) (m : Mk), mkE.flat (l.set i m) = (((mkE.flat l).set (i * 3) (.int .u32 m.id)).set (i * 3 + 1) (.int .i64 m.a)).set (i * 3 + 2) (.int .u8 m.g)
  | [], i, m => by simp [Enc.flat]
  | x :: r, 0, m => by
    rw [List.set_cons_zero, Enc.flat_cons, Enc.flat_cons]
    simp [mkE, Mk.cells]
  | x :: r, i + 1, m => by
    rw [List.set_cons_succ, Enc.flat_cons, Enc.flat_cons, flat_set3 r i m, Nat.add_mul]
    simp [mkE, Mk.cells]
theorem flat_set1 : ∀ (l : List Mk) (i : Nat) (h : i < l.length) (a : Int), mkE.flat (l.set i ⟨l[i].id, a, l[i].g⟩) = (mkE.flat l).set (i * 3 + 1) (.int .i64 a)
  | [], i, h, a => by simp at h
  | x :: r, 0, _, a => by
    rw [List.set_cons_zero, Enc.flat_cons, Enc.flat_cons]
    simp [mkE, Mk.cells]
  | x :: r, i + 1, h, a => by
    have ih := flat_set1 r i (by simpa using h) a
    rw [List.set_cons_succ, Enc.flat_cons, Enc.flat_cons, List.getElem_cons_succ, ih, Nat.add_mul]
    simp [mkE, Mk.cells]

theorem own_put3 {w : World} {B g n cap : Nat} {l : List Mk} {e : TypeId} (h : w.ownsRow B e 3 (.slice (some ⟨g, 0, none⟩) n cap) n (mkE.flat l)) (i : Nat) (m : Mk) :
    (((w.setCell ⟨g, i * 3, none⟩ (.int .u32 m.id)).setCell ⟨g, i * 3 + 1, none⟩ (.int .i64 m.a)).setCell ⟨g, i * 3 + 2, none⟩ (.int .u8 m.g)).ownsRow B e 3 (.slice (some ⟨g, 0, none⟩) n cap) n (mkE.flat (l.set i m)) := by
  rw [flat_set3]
  exact (((h.stored _ _).1.stored _ _).1.stored _ _).1

set_option maxHeartbeats 1000000 in
theorem set_bad1 (v : Value) (l : List Mk) (m : Mk) (w : World) (h : Sl mkE w v l) (hd : ∀ m, m ∈ l → m.wf) (hc : chkM 9223372036854775807 l ≠ 0) :
    Calls Try.prog 18 #[v, m.v] w fun e w' => e = .returned (.tuple #[.slice none 0 0, .int .i64 2]) ∧ Below w.heap.size w w' := by
  have cC := fun w' hS => mcheck_any 9223372036854775807 v l w' hS hd
  generalize chkM 9223372036854775807 l = E at *
  obtain ⟨i, a, g⟩ := m
  unfold Mk.v
  have hE : (E != 0) = true := by simpa using hc
  have H := Lib.hid h; have CC := Lib.hid cC
  clear h cC hc hd
  go_enter Try.func18, Try.ntmps18
  go_wp2_with fail
  refine (CC.out _ (H.out.alloc _)).mono ?_
  rintro e w1 ⟨rfl, hb⟩
  go_wp2
  go_ret2
  exact ⟨rfl, below_one hb⟩

set_option maxHeartbeats 1000000 in
theorem set_bad2 (v : Value) (l : List Mk) (m : Mk) (w : World) (h : Sl mkE w v l) (hd : ∀ m, m ∈ l → m.wf) (hm : m.wf) (hc : chkM 9223372036854775807 l = 0) (hc2 : chkM 9223372036854775807 [m] ≠ 0) :
    Calls Try.prog 18 #[v, m.v] w fun e w' => e = .returned (.tuple #[.slice none 0 0, .int .i64 2]) ∧ Below w.heap.size w w' := by
  have cC := fun w' hS => mcheck_any 9223372036854775807 v l w' hS hd
  have cD := fun w' v hS => mcheck_any 9223372036854775807 v [m] w' hS (fun x hx => by rw [List.mem_singleton.1 hx]; exact hm)
  have hx := fun w' t => Sl.new1 w' m t
  have hbx := fun w' t => box3 w' m t
  rw [hc] at cC
  generalize chkM 9223372036854775807 [m] = E at *
  generalize [m] = lm at *
  obtain ⟨i, a, g⟩ := m
  unfold Mk.v
  have hE : (E != 0) = true := by simpa using hc2
  have H := Lib.hid h; have CC := Lib.hid cC; have CD := Lib.hid cD; have HX := Lib.hid hx; have HBX := Lib.hid hbx
  clear h cC hc hc2 hd cD hx hbx hm
  go_enter Try.func18, Try.ntmps18
  go_wp2_with fail
  refine (CC.out _ (H.out.alloc _)).mono ?_
  rintro e w1 ⟨rfl, hb⟩
  obtain ⟨k0, k1, k2⟩ := HBX.out w 32
  have c0 := (hb.cell (p := ⟨w.heap.size, 0, none⟩) (by simp)).trans k0
  have c1 := (hb.cell (p := ⟨w.heap.size, 1, none⟩) (by simp)).trans k1
  have c2 := (hb.cell (p := ⟨w.heap.size, 2, none⟩) (by simp)).trans k2
  clear k0 k1 k2
  have HB := Lib.hid (below_one hb)
  clear hb
  go_wp2_with fail
  refine (CD.out _ _ (HX.out w1 32)).mono ?_
  rintro e w2 ⟨rfl, hb⟩
  go_wp2
  go_ret2
  exact ⟨rfl, HB.out.trans ((below_one hb).mono HB.out.size)⟩

-- GENERATED
theorem own_le {w : World} {B B' n s : Nat} {e : TypeId} {v : Value} {xs : List Value} (h : w.ownsRow B e s v n xs) (hb : B' ≤ B) : w.ownsRow B' e s v n xs := own_base (own_zero h) (fun g hg => Nat.le_trans hb (h.lt g hg).1)
theorem own_ext {w w' : World} {B n s : Nat} {e : TypeId} {v : Value} {xs : List Value} (h : w.ownsRow B e s v n xs) (hb : Below w.heap.size w w') : w'.ownsRow B e s v n xs :=
  h.kept (row := none) ⟨hb.os, hb.tape, hb.output, hb.size, fun k hk _ => hb.block k hk⟩ (by
    cases e : v.ownBlock with
    | none => exact .inl rfl
    | some g => exact .inr (by simp))

set_option maxHeartbeats 2000000 in
set_option maxRecDepth 100000 in
theorem set_found (v : Value) (l : List Mk) (m : Mk) (w : World) (h : Sl mkE w v l) (hd : ∀ m, m ∈ l → m.wf) (hm : m.wf) (hc : chkM 9223372036854775807 l = 0) (hc2 : chkM 9223372036854775807 [m] = 0) (hb : hasB m.id l = true) :
    Calls Try.prog 18 #[v, m.v] w fun e w' => ∃ v', e = .returned (.tuple #[v', .int .i64 0]) ∧ w'.ownsRow w.heap.size 32 3 v' l.length (mkE.flat (l.set (plc m.id l) m)) ∧ Below w.heap.size w w' := by
  have cC := fun w' hS => mcheck_any 9223372036854775807 v l w' hS hd
  have cD := fun w' v hS => mcheck_any 9223372036854775807 v [m] w' hS (fun x hx => by rw [List.mem_singleton.1 hx]; exact hm)
  have hM := (chkM_zero _ _).1 hc
  have hln := hM.len
  have cL := fun w' hS => clone_any v l w' hS (by omega)
  have cP := fun w' v hS => place_any v l m.id w' hS (by omega) (pw_index hM.pw)
  have hx := fun w' t => Sl.new1 w' m t
  have hbx := fun w' t => box3 w' m t
  rw [hc] at cC
  rw [hc2] at cD
  rw [hb] at cP
  obtain ⟨hk, -⟩ := setR_found hM.pw hb
  have OP := Lib.hid (fun (w : World) (B g n cap : Nat) (e : TypeId) (h : w.ownsRow B e 3 (.slice (some ⟨g, 0, none⟩) n cap) n (mkE.flat l)) => own_put3 h (plc m.id l) m)
  have hki : ((plc m.id l : Nat) : Int) < (l.length : Int) := by omega
  generalize l.set (plc m.id l) m = L2 at *
  generalize plc m.id l = k at *
  generalize [m] = lm at *
  obtain ⟨i, a, g⟩ := m
  unfold Mk.v
  simp only at *
  have H := Lib.hid h; have CC := Lib.hid cC; have CD := Lib.hid cD; have HX := Lib.hid hx; have HBX := Lib.hid hbx; have CL := Lib.hid cL; have CP := Lib.hid cP
  have hln2 : 0 < l.length := by omega
  
  
  
  have HL := Lib.hid hln
  clear h cC hc hc2 hd cD hx hbx hm cL cP hM hln
  go_enter Try.func18, Try.ntmps18
  go_wp2_with fail
  refine (CC.out _ (H.out.alloc _)).mono ?_
  rintro e w1 ⟨rfl, hb⟩
  obtain ⟨k0, k1, k2⟩ := HBX.out w 32
  have c0 := (hb.cell (p := ⟨w.heap.size, 0, none⟩) (by simp)).trans k0
  have c1 := (hb.cell (p := ⟨w.heap.size, 1, none⟩) (by simp)).trans k1
  have c2 := (hb.cell (p := ⟨w.heap.size, 2, none⟩) (by simp)).trans k2
  have hlt1 : w.heap.size < w1.heap.size := Nat.lt_of_lt_of_le (by simp) hb.size
  clear k0 k1 k2
  have HB := Lib.hid (below_one hb)
  clear hb
  go_wp2_with fail
  refine (CD.out _ _ (HX.out w1 32)).mono ?_
  rintro e w2 ⟨rfl, hb⟩
  have hb2 := below_one hb
  have hlt2 : w.heap.size < w2.heap.size := Nat.lt_of_lt_of_le hlt1 hb2.size
  have d0 := (hb2.cell (p := ⟨w.heap.size, 0, none⟩) hlt1).trans c0
  have d1 := (hb2.cell (p := ⟨w.heap.size, 1, none⟩) hlt1).trans c1
  have d2 := (hb2.cell (p := ⟨w.heap.size, 2, none⟩) hlt1).trans c2
  have HB2 := Lib.hid (HB.out.trans (hb2.mono HB.out.size))
  clear c0 c1 c2 hb hb2 HB
  go_wp2_with fail
  refine (CL.out _ (H.out.ext HB2.out)).mono ?_
  rintro e w3 ⟨v', rfl, hown, hb⟩
  have hlt3 : w.heap.size < w3.heap.size := Nat.lt_of_lt_of_le hlt2 hb.size
  have c0 := (hb.cell (p := ⟨w.heap.size, 0, none⟩) hlt2).trans d0
  have c1 := (hb.cell (p := ⟨w.heap.size, 1, none⟩) hlt2).trans d1
  have c2 := (hb.cell (p := ⟨w.heap.size, 2, none⟩) hlt2).trans d2
  have HB3 := Lib.hid (HB2.out.trans (hb.mono HB2.out.size))
  have hsz2 := HB2.out.size
  clear d0 d1 d2 hb HB2
  obtain ⟨b, cap, rfl, -⟩ := hown.form hln2
  have HO := Lib.hid hown
  clear hown
  go_wp2_with fail
  refine (CP.out _ _ (Sl.of_own HO.out)).mono ?_
  rintro e w4 ⟨rfl, hb⟩
  have d0 := (hb.cell (p := ⟨w.heap.size, 0, none⟩) hlt3).trans c0
  have d1 := (hb.cell (p := ⟨w.heap.size, 1, none⟩) hlt3).trans c1
  have d2 := (hb.cell (p := ⟨w.heap.size, 2, none⟩) hlt3).trans c2
  have HB4 := Lib.hid (HB3.out.trans (hb.mono HB3.out.size))
  have hlt4 : w.heap.size < w4.heap.size := Nat.lt_of_lt_of_le hlt3 hb.size
  have HO4 := Lib.hid (own_ext HO.out hb)
  clear c0 c1 c2 hb HB3 HO
  obtain ⟨b', off', cap', hv, hbl, s0, s1, s2⟩ := (Sl.of_own HO4.out).mk3 hk
  obtain ⟨rfl, rfl, rfl⟩ : b = b' ∧ 0 = off' ∧ cap = cap' := by injection hv with e1 e2 e3; injection e1 with e1; injection e1 with e1 e2; exact ⟨e1, e2, e3⟩
  have fz := HO4.out.frozenAt
  have hbb := (HO4.out.lt b rfl).1
  have hne : ¬ w.heap.size = b := by omega
  simp only [Nat.zero_add] at s0 s1 s2
  clear hv
  generalize l[k] = mo at *
  clear hk
  obtain ⟨xo, ao, go⟩ := mo
  simp only at s0 s1 s2
  go_wp2
  go_ret2
  refine ⟨_, rfl, own_le (OP.out _ _ _ _ _ _ HO4.out) hsz2, ?_⟩
  exact ((HB4.out.setCell (p := ⟨b, _, none⟩) (by simp; omega) _).setCell (p := ⟨b, _, none⟩) (by simp; omega) _).setCell (p := ⟨b, _, none⟩) (by simp; omega) _

set_option maxHeartbeats 2000000 in
set_option maxRecDepth 100000 in
theorem set_full (v : Value) (l : List Mk) (m : Mk) (w : World) (h : Sl mkE w v l) (hd : ∀ m, m ∈ l → m.wf) (hm : m.wf) (hc : chkM 9223372036854775807 l = 0) (hc2 : chkM 9223372036854775807 [m] = 0) (hb : hasB m.id l = false) (hf : l.length = 64) :
    Calls Try.prog 18 #[v, m.v] w fun e w' => e = .returned (.tuple #[.slice none 0 0, .int .i64 20]) ∧ Below w.heap.size w w' := by
  have cC := fun w' hS => mcheck_any 9223372036854775807 v l w' hS hd
  have cD := fun w' v hS => mcheck_any 9223372036854775807 v [m] w' hS (fun x hx => by rw [List.mem_singleton.1 hx]; exact hm)
  have hM := (chkM_zero _ _).1 hc
  have hln := hM.len
  have cL := fun w' hS => clone_any v l w' hS (by omega)
  have cP := fun w' v hS => place_any v l m.id w' hS (by omega) (pw_index hM.pw)
  have hx := fun w' t => Sl.new1 w' m t
  have hbx := fun w' t => box3 w' m t
  rw [hc] at cC
  rw [hc2] at cD
  rw [hb] at cP
  have hfb : ((l.length : Int) == 64) = true := by simp; omega
  clear hb
  generalize plc m.id l = k at *
  generalize [m] = lm at *
  obtain ⟨i, a, g⟩ := m
  unfold Mk.v
  simp only at *
  have H := Lib.hid h; have CC := Lib.hid cC; have CD := Lib.hid cD; have HX := Lib.hid hx; have HBX := Lib.hid hbx; have CL := Lib.hid cL; have CP := Lib.hid cP
  have hln2 : 0 < l.length := by omega
  clear hf
  
  
  have HL := Lib.hid hln
  clear h cC hc hc2 hd cD hx hbx hm cL cP hM hln
  go_enter Try.func18, Try.ntmps18
  go_wp2_with fail
  refine (CC.out _ (H.out.alloc _)).mono ?_
  rintro e w1 ⟨rfl, hb⟩
  obtain ⟨k0, k1, k2⟩ := HBX.out w 32
  have c0 := (hb.cell (p := ⟨w.heap.size, 0, none⟩) (by simp)).trans k0
  have c1 := (hb.cell (p := ⟨w.heap.size, 1, none⟩) (by simp)).trans k1
  have c2 := (hb.cell (p := ⟨w.heap.size, 2, none⟩) (by simp)).trans k2
  have hlt1 : w.heap.size < w1.heap.size := Nat.lt_of_lt_of_le (by simp) hb.size
  clear k0 k1 k2
  have HB := Lib.hid (below_one hb)
  clear hb
  go_wp2_with fail
  refine (CD.out _ _ (HX.out w1 32)).mono ?_
  rintro e w2 ⟨rfl, hb⟩
  have hb2 := below_one hb
  have hlt2 : w.heap.size < w2.heap.size := Nat.lt_of_lt_of_le hlt1 hb2.size
  have d0 := (hb2.cell (p := ⟨w.heap.size, 0, none⟩) hlt1).trans c0
  have d1 := (hb2.cell (p := ⟨w.heap.size, 1, none⟩) hlt1).trans c1
  have d2 := (hb2.cell (p := ⟨w.heap.size, 2, none⟩) hlt1).trans c2
  have HB2 := Lib.hid (HB.out.trans (hb2.mono HB.out.size))
  clear c0 c1 c2 hb hb2 HB
  go_wp2_with fail
  refine (CL.out _ (H.out.ext HB2.out)).mono ?_
  rintro e w3 ⟨v', rfl, hown, hb⟩
  have hlt3 : w.heap.size < w3.heap.size := Nat.lt_of_lt_of_le hlt2 hb.size
  have c0 := (hb.cell (p := ⟨w.heap.size, 0, none⟩) hlt2).trans d0
  have c1 := (hb.cell (p := ⟨w.heap.size, 1, none⟩) hlt2).trans d1
  have c2 := (hb.cell (p := ⟨w.heap.size, 2, none⟩) hlt2).trans d2
  have HB3 := Lib.hid (HB2.out.trans (hb.mono HB2.out.size))
  have hsz2 := HB2.out.size
  clear d0 d1 d2 hb HB2
  obtain ⟨b, cap, rfl, -⟩ := hown.form hln2
  have HO := Lib.hid hown
  clear hown
  go_wp2_with fail
  refine (CP.out _ _ (Sl.of_own HO.out)).mono ?_
  rintro e w4 ⟨rfl, hb⟩
  have d0 := (hb.cell (p := ⟨w.heap.size, 0, none⟩) hlt3).trans c0
  have d1 := (hb.cell (p := ⟨w.heap.size, 1, none⟩) hlt3).trans c1
  have d2 := (hb.cell (p := ⟨w.heap.size, 2, none⟩) hlt3).trans c2
  have HB4 := Lib.hid (HB3.out.trans (hb.mono HB3.out.size))
  have hlt4 : w.heap.size < w4.heap.size := Nat.lt_of_lt_of_le hlt3 hb.size
  have HO4 := Lib.hid (own_ext HO.out hb)
  clear c0 c1 c2 hb HB3 HO
  go_wp2
  go_ret2
  exact ⟨rfl, HB4.out⟩

set_option maxHeartbeats 2000000 in
set_option maxRecDepth 100000 in
theorem drop_bad (v : Value) (l : List Mk) (d : Int) (w : World) (h : Sl mkE w v l) (hd : ∀ m, m ∈ l → m.wf) (hc : chkM 9223372036854775807 l ≠ 0) :
    Calls Try.prog 19 #[v, .int .u32 d] w fun e w' => e = .returned (.tuple #[.slice none 0 0, .int .i64 2]) ∧ Below w.heap.size w w' := by
  have cC := fun w' hS => mcheck_any 9223372036854775807 v l w' hS hd
  generalize chkM 9223372036854775807 l = E at *
  have hE : (E != 0) = true := by simpa using hc
  have H := Lib.hid h; have CC := Lib.hid cC
  clear h cC hc hd
  go_enter Try.func19, Try.ntmps19
  go_wp2_with fail
  refine (CC.out _ H.out).mono ?_
  rintro e w1 ⟨rfl, hb⟩
  go_wp2
  go_ret2
  exact ⟨rfl, hb⟩

set_option maxHeartbeats 2000000 in
set_option maxRecDepth 100000 in
theorem drop_none (v : Value) (l : List Mk) (d : Int) (w : World) (h : Sl mkE w v l) (hd : ∀ m, m ∈ l → m.wf) (hc : chkM 9223372036854775807 l = 0) (hb : hasB d l = false) :
    Calls Try.prog 19 #[v, .int .u32 d] w fun e w' => e = .returned (.tuple #[.slice none 0 0, .int .i64 7]) ∧ Below w.heap.size w w' := by
  have cC := fun w' hS => mcheck_any 9223372036854775807 v l w' hS hd
  have hM := (chkM_zero _ _).1 hc
  have hln := hM.len
  have cP := fun w' v hS => place_any v l d w' hS (by omega) (pw_index hM.pw)
  rw [hc] at cC
  rw [hb] at cP
  generalize plc d l = k at *
  have H := Lib.hid h; have CC := Lib.hid cC; have CP := Lib.hid cP
  clear h cC hc hd cP hb hM hln
  go_enter Try.func19, Try.ntmps19
  go_wp2_with fail
  refine (CC.out _ H.out).mono ?_
  rintro e w1 ⟨rfl, hb⟩
  have HB := Lib.hid hb
  clear hb
  go_wp2_with fail
  refine (CP.out _ _ (H.out.ext HB.out)).mono ?_
  rintro e w2 ⟨rfl, hb⟩
  have HB2 := Lib.hid (HB.out.trans (hb.mono HB.out.size))
  clear hb HB
  go_wp2
  go_ret2
  exact ⟨rfl, HB2.out⟩

end Go.Proofs.Ytibmnkdeepmabaa
