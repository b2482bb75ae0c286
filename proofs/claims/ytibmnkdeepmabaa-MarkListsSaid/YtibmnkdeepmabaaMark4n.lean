/- mark.Set and mark.Drop where slices.Insert and slices.Delete are called: what they return. -/
import Derived.Test.YtibmnkdeepmabaaMark4
import Derived.Test.YtibmnkdeepmabaaInsert
import Derived.Test.YtibmnkdeepmabaaDelete
namespace Go.Proofs.Ytibmnkdeepmabaa
open Go.RowKit

set_option maxHeartbeats 2000000 in
set_option maxRecDepth 100000 in
theorem set_new (v : Value) (l : List Mk) (m : Mk) (w : World) (h : Sl mkE w v l) (hd : ∀ m, m ∈ l → m.wf) (hm : m.wf) (hc : chkM 9223372036854775807 l = 0) (hc2 : chkM 9223372036854775807 [m] = 0) (hb : hasB m.id l = false) (hf : l.length ≠ 64) :
    Calls Try.prog 18 #[v, m.v] w fun e w' => ∃ v', e = .returned (.tuple #[v', .int .i64 0]) ∧ w'.ownsRow w.heap.size 32 3 v' (l.length + 1) (mkE.flat (l.take (plc m.id l) ++ m :: l.drop (plc m.id l))) ∧ Below w.heap.size w w' := by
  have cC := fun w' hS => mcheck_any 9223372036854775807 v l w' hS hd
  have cD := fun w' v hS => mcheck_any 9223372036854775807 v [m] w' hS (fun x hx => by rw [List.mem_singleton.1 hx]; exact hm)
  have hM := (chkM_zero _ _).1 hc
  have hln := hM.len
  have cL := fun w' hS => clone_any v l w' hS (by omega)
  have cP := fun w' v hS => place_any v l m.id w' hS (by omega) (pw_index hM.pw)
  have hx := fun w' t => Sl.new1 w' m t
  have hbx := fun w' t => box3 w' m t
  rw [hc] at cC
  rw [hc2] at cD
  rw [hb] at cP
  have hkl := plc_le m.id l
  have cI := fun w B A c bv hown hB hm2 hne => insert_any w B l A c (plc m.id l) m bv hown hB hm2 hne hkl (by omega)
  have CI := Lib.hid cI; clear cI hb
  generalize l.take (plc m.id l) ++ m :: l.drop (plc m.id l) = L2 at *
  generalize plc m.id l = k at *
  generalize [m] = lm at *
  obtain ⟨i, a, g⟩ := m
  unfold Mk.v
  simp only at *
  have H := Lib.hid h; have CC := Lib.hid cC; have CD := Lib.hid cD; have HX := Lib.hid hx; have HBX := Lib.hid hbx; have CL := Lib.hid cL; have CP := Lib.hid cP
  
  
  have hfb : ((l.length : Int) == 64) = false := by simp; omega
  clear hf
  have HL := Lib.hid hln
  clear h cC hc hc2 hd cD hx hbx hm cL cP hM hln
  go_enter Try.func18, Try.ntmps18
  go_wp2_with fail
  refine (CC.out _ (H.out.alloc _)).mono ?_
  rintro e w1 ⟨rfl, hb⟩
  obtain ⟨k0, k1, k2⟩ := HBX.out w 32
  have c0 := (hb.cell (p := ⟨w.heap.size, 0, none⟩) (by simp)).trans k0
  have c1 := (hb.cell (p := ⟨w.heap.size, 1, none⟩) (by simp)).trans k1
  have c2 := (hb.cell (p := ⟨w.heap.size, 2, none⟩) (by simp)).trans k2
  have hlt1 : w.heap.size < w1.heap.size := Nat.lt_of_lt_of_le (by simp) hb.size
  clear k0 k1 k2
  have HB := Lib.hid (below_one hb)
  clear hb
  go_wp2_with fail
  refine (CD.out _ _ (HX.out w1 32)).mono ?_
  rintro e w2 ⟨rfl, hb⟩
  have hb2 := below_one hb
  have hlt2 : w.heap.size < w2.heap.size := Nat.lt_of_lt_of_le hlt1 hb2.size
  have d0 := (hb2.cell (p := ⟨w.heap.size, 0, none⟩) hlt1).trans c0
  have d1 := (hb2.cell (p := ⟨w.heap.size, 1, none⟩) hlt1).trans c1
  have d2 := (hb2.cell (p := ⟨w.heap.size, 2, none⟩) hlt1).trans c2
  have HB2 := Lib.hid (HB.out.trans (hb2.mono HB.out.size))
  clear c0 c1 c2 hb hb2 HB
  go_wp2_with fail
  refine (CL.out _ (H.out.ext HB2.out)).mono ?_
  rintro e w3 ⟨v', rfl, hown, hb⟩
  have hlt3 : w.heap.size < w3.heap.size := Nat.lt_of_lt_of_le hlt2 hb.size
  have hs3 := hb.size
  have c0 := (hb.cell (p := ⟨w.heap.size, 0, none⟩) hlt2).trans d0
  have c1 := (hb.cell (p := ⟨w.heap.size, 1, none⟩) hlt2).trans d1
  have c2 := (hb.cell (p := ⟨w.heap.size, 2, none⟩) hlt2).trans d2
  have HB3 := Lib.hid (HB2.out.trans (hb.mono HB2.out.size))
  have hsz2 := HB2.out.size
  clear d0 d1 d2 hb HB2
  obtain ⟨A, cap, rfl⟩ := own_form w3 (own_zero hown)
  have hs23 := hs3
  have HO := Lib.hid hown
  clear hown
  go_wp2_with fail
  refine (CP.out _ _ (Sl.of_own HO.out)).mono ?_
  rintro e w4 ⟨rfl, hb⟩
  have d0 := (hb.cell (p := ⟨w.heap.size, 0, none⟩) hlt3).trans c0
  have d1 := (hb.cell (p := ⟨w.heap.size, 1, none⟩) hlt3).trans c1
  have d2 := (hb.cell (p := ⟨w.heap.size, 2, none⟩) hlt3).trans c2
  have HB4 := Lib.hid (HB3.out.trans (hb.mono HB3.out.size))
  have hs34 := hb.size
  have hlt4 : w.heap.size < w4.heap.size := Nat.lt_of_lt_of_le hlt3 hb.size
  have HO4 := Lib.hid (own_ext HO.out hb)
  clear c0 c1 c2 hb HB3 HO
  go_wp2_with fail
  refine (CI.out (w4.alloc (.cells #[.int .u32 i, .int .i64 a, .int .u8 g] 32)) _ A cap w4.heap.size (HO4.out.alloc _) (by simp; omega) (heap_alloc_new w4 _) ?_).mono ?_
  · intro he
    have := (HO4.out.lt _ he).2
    omega
  rintro e w5 ⟨v', rfl, hown, hb⟩
  go_wp2
  go_ret2
  exact ⟨_, rfl, own_le hown hsz2, (HB4.out.alloc HB4.out.size _).trans (hb.mono hsz2)⟩

set_option maxHeartbeats 2000000 in
set_option maxRecDepth 100000 in
theorem drop_hit (v : Value) (l : List Mk) (d : Int) (w : World) (h : Sl mkE w v l) (hd : ∀ m, m ∈ l → m.wf) (hc : chkM 9223372036854775807 l = 0) (hb : hasB d l = true) :
    Calls Try.prog 19 #[v, .int .u32 d] w fun e w' => ∃ v', e = .returned (.tuple #[v', .int .i64 0]) ∧ w'.ownsRow w.heap.size 32 3 v' (l.length - 1) (mkE.flat (wo9 d l)) ∧ Below w.heap.size w w' := by
  have cC := fun w' hS => mcheck_any 9223372036854775807 v l w' hS hd
  have hM := (chkM_zero _ _).1 hc
  have hln := hM.len
  have cP := fun w' v hS => place_any v l d w' hS (by omega) (pw_index hM.pw)
  rw [hc] at cC
  rw [hb] at cP
  have cL := fun w' hS => clone_any v l w' hS (by omega)
  obtain ⟨hk, hkw⟩ := drop_found hM.pw hb
  have cI := fun w B g c hown hB => delete_any w B l g c (plc d l) hown hB hk (by omega)
  rw [← hkw] at cI
  have hln2 : 0 < l.length := by omega
  have hki : ((plc d l : Nat) : Int) < 1000 := by omega
  have CI := Lib.hid cI; have CL := Lib.hid cL; clear cI cL hk hkw
  generalize plc d l = k at *
  have H := Lib.hid h; have CC := Lib.hid cC; have CP := Lib.hid cP
  clear h cC hc hd cP hb hM hln
  go_enter Try.func19, Try.ntmps19
  go_wp2_with fail
  refine (CC.out _ H.out).mono ?_
  rintro e w1 ⟨rfl, hb⟩
  have HB := Lib.hid hb
  clear hb
  go_wp2_with fail
  refine (CP.out _ _ (H.out.ext HB.out)).mono ?_
  rintro e w2 ⟨rfl, hb⟩
  have HB2 := Lib.hid (HB.out.trans (hb.mono HB.out.size))
  clear hb HB
  go_wp2_with fail
  refine (CL.out _ (H.out.ext HB2.out)).mono ?_
  rintro e w3 ⟨v', rfl, hown, hb⟩
  have hsz2 := HB2.out.size
  have HB3 := Lib.hid (HB2.out.trans (hb.mono HB2.out.size))
  obtain ⟨b, cap, rfl, -⟩ := hown.form hln2
  have HO := Lib.hid hown
  have hs3 := hb.size
  clear hown hb HB2
  go_wp2_with fail
  refine (CI.out w3 _ b cap HO.out hs3).mono ?_
  rintro e w4 ⟨v', rfl, hown, hb⟩
  go_wp2
  go_ret2
  exact ⟨_, rfl, own_le hown hsz2, HB3.out.trans (hb.mono hsz2)⟩

end Go.Proofs.Ytibmnkdeepmabaa
