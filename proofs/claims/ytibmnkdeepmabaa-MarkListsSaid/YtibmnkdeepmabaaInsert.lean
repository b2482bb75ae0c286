/- slices.Insert of one mark into a row of the call's own: what it returns. Condition: a row of moderate length; the mark lies in another block. -/
import Derived.Test.YtibmnkdeepmabaaMark4
import Derived.Test.YtibmnkdeepmabaaRowOps
import Derived.Shelf.RegionOpenPlain
namespace Go.Proofs.Ytibmnkdeepmabaa
open Go.RowKit

theorem src_mark {w : World} {bv : Nat} {m : Mk} (hm : w.cell? ⟨bv, 0, none⟩ = some (.int .u32 m.id) ∧ w.cell? ⟨bv, 1, none⟩ = some (.int .i64 m.a) ∧ w.cell? ⟨bv, 2, none⟩ = some (.int .u8 m.g)) : ∀ j u, (mkE.cells m)[j]? = some u → w.cell? ⟨bv, 0 + j, none⟩ = some u := by
  intro j u hj
  rw [Nat.zero_add]
  match j with
  | 0 => simp [mkE, Mk.cells] at hj; subst hj; exact hm.1
  | 1 => simp [mkE, Mk.cells] at hj; subst hj; exact hm.2.1
  | 2 => simp [mkE, Mk.cells] at hj; subst hj; exact hm.2.2
  | n + 3 => simp [mkE, Mk.cells] at hj

set_option maxHeartbeats 1000000 in
set_option maxRecDepth 100000 in
theorem insert_end (w : World) (B : Nat) (R : List Mk) (A : Option Addr) (c : Nat) (m : Mk) (bv : Nat) (hown : w.ownsRow B 32 3 (.slice A R.length c) R.length (mkE.flat R)) (hB : B ≤ w.heap.size)
    (hm : w.cell? ⟨bv, 0, none⟩ = some (.int .u32 m.id) ∧ w.cell? ⟨bv, 1, none⟩ = some (.int .i64 m.a) ∧ w.cell? ⟨bv, 2, none⟩ = some (.int .u8 m.g)) (hl : R.length ≤ 1000) :
    Calls Try.prog 35 #[.slice A R.length c, .int .i64 R.length, .slice (some ⟨bv, 0, none⟩) 1 1] w fun e w' => ∃ v', e = .returned v' ∧ w'.ownsRow B 32 3 v' (R.length + 1) (mkE.flat (R ++ [m])) ∧ Below B w w' := by
  obtain ⟨i0, hi, hz0, hz1, hz2⟩ := info_parts infoMark
  have HO := Lib.hid hown; have HS := Lib.hid (src_mark hm)
  have hcm : R.length ≤ c ∧ c ≤ 9223372036854775807 := by
    obtain ⟨A', c', e, h2, h3, -⟩ := Sl.of_own hown
    injection e with e1 e2 e3
    unfold maxLen at h3
    omega
  obtain ⟨hc1, hc2⟩ := hcm
  have hlt := fun k hk => (hown.lt k hk).1
  have HLT := Lib.hid hlt
  clear hown hm hlt
  cases A with
  | none =>
    have hR : R = [] := by
      rcases HO.out.2 with ⟨-, h0⟩ | ⟨g, cap, cur, e, -⟩
      · exact List.eq_nil_of_length_eq_zero h0
      · cases e
    subst hR
    go_enter Try.func35, Try.ntmps35
    go_wp2_with (at_builtin; refine Hid.out ?_)
    refine Lib.hid ?_
    refine wpListB_append _ rfl (.tmp 23) (.tmp 24) 22 22 rfl B hB 32 i0 _ 3 24 Try.underlying22 hi hz0 hz1 hz2 rfl (by decide) _ _ _ rfl HO.out _ 1 _ rfl (src_one mkE Try.underlying22 (off := 0) m _ HS.out) ?_ ?_ ?_
    · unfold maxLen; omega
    · omega
    intro A9 c9 w9 hown9 hg9 _ _
    go_wp2
    go_ret
    exact ⟨_, rfl, hown9, (Below.refl _ _).grown hg9 hB (fun g hg => HLT.out g hg)⟩
  | some ad =>
    obtain ⟨g, off, sp⟩ := ad
    obtain ⟨rfl, rfl⟩ : off = 0 ∧ sp = none := by
      rcases HO.out.2 with ⟨e, -⟩ | ⟨g', cap, cur, e, -⟩
      · cases e
      · injection e with e1; injection e1 with e1; injection e1 with e1 e2 e3; exact ⟨e2, e3⟩
    have hcn : c = R.length ∨ ¬ c = R.length := Classical.em _
    rcases hcn with hcn | hcn
    all_goals
      go_enter Try.func35, Try.ntmps35
      go_wp2_with (at_builtin; refine Hid.out ?_)
      refine Lib.hid ?_
      refine wpListB_append _ rfl (.tmp 23) (.tmp 24) 22 22 rfl B hB 32 i0 _ 3 24 Try.underlying22 hi hz0 hz1 hz2 rfl (by decide) _ _ _ rfl HO.out _ 1 _ rfl (src_one mkE Try.underlying22 (off := 0) m _ HS.out) ?_ ?_ ?_
      · unfold maxLen; omega
      · omega
      intro A9 c9 w9 hown9 hg9 _ _
      go_wp2
      go_ret
      exact ⟨_, rfl, by rw [mkE.flat_append]; exact hown9, (Below.refl _ _).grown hg9 hB (fun g hg => HLT.out g hg)⟩

/-- the row's block -/
theorem own_heap {w : World} {B g n c : Nat} {xs : List Value} {e : TypeId} (h : w.ownsRow B e 3 (.slice (some ⟨g, 0, none⟩) n c) n xs) : ∃ cur : Array Value, B ≤ g ∧ w.heap[g]? = some (.cells cur e (0, 0)) ∧ n ≤ c ∧ c ≤ maxLen ∧ cur.size = c * 3 ∧ cur.toList.take (n * 3) = xs ∧ xs.length = n * 3 := by
  rcases h.2 with ⟨e0, _⟩ | ⟨g', cap', cur, e0, hb, hg, hn, hm, hs, ht⟩
  · cases e0
  · injection e0 with e1 _ e3
    injection e1 with e1
    injection e1 with e1
    subst e1; subst e3
    exact ⟨cur, hb, hg, hn, hm, hs, ht, h.1⟩
theorem heap_cell {w : World} {g j : Nat} {cur : Array Value} {e : TypeId} {v : Value} (hg : w.heap[g]? = some (.cells cur e (0, 0))) (h : cur.toList[j]? = some v) : w.cell? ⟨g, j, none⟩ = some v := by
  rw [Array.getElem?_toList] at h
  simp [World.cell?, hg, h]

/-- the mark alone in its block -/
def boxM (m : Mk) : Obj := .cells #[.int .u32 m.id, .int .i64 m.a, .int .u8 m.g] 32 (0, 0)

set_option maxHeartbeats 4000000 in
set_option maxRecDepth 100000 in
theorem insert_room (w : World) (B : Nat) (R : List Mk) (g c i : Nat) (m : Mk) (bv : Nat) (hown : w.ownsRow B 32 3 (.slice (some ⟨g, 0, none⟩) R.length c) R.length (mkE.flat R)) 
    (hm : w.heap[bv]? = some (boxM m)) (hne : bv ≠ g) (hi : i < R.length) (hroom : R.length + 1 ≤ c) (hl : R.length ≤ 1000) :
    Calls Try.prog 35 #[.slice (some ⟨g, 0, none⟩) R.length c, .int .i64 i, .slice (some ⟨bv, 0, none⟩) 1 1] w fun e w' => ∃ v', e = .returned v' ∧ w'.ownsRow B 32 3 v' (R.length + 1) (mkE.flat (R.take i ++ m :: R.drop i)) ∧ Below B w w' := by
  obtain ⟨cur, hBg, hg, -, hcm, hcs, ht, -⟩ := own_heap hown
  have hX : (mkE.flat (R.take i)).length = i * 3 := by rw [mkE.flat_len, List.length_take, Nat.min_eq_left (by omega)]; rfl
  have hY : (mkE.flat (R.drop i)).length = (R.length - i) * 3 := by rw [mkE.flat_len, List.length_drop]; rfl
  have hXY : mkE.flat R = mkE.flat (R.take i) ++ mkE.flat (R.drop i) := by rw [← mkE.flat_append, List.take_append_drop]
  have hfin : mkE.flat (R.take i ++ m :: R.drop i) = mkE.flat (R.take i) ++ (mkE.cells m ++ mkE.flat (R.drop i)) := by rw [mkE.flat_append, mkE.flat_cons]
  have h1Y := mkE.flat_one (R.drop i)
  have h1m := mkE.one m
  rw [hXY] at ht
  have hcurl : cur.toList.length = c * 3 := by rw [Array.length_toList]; exact hcs
  have hcl3 : (R.length + 1) * 3 ≤ c * 3 := Nat.mul_le_mul_right 3 hroom
  have hlay := lay_insert 3 cur.toList (mkE.flat (R.take i)) (mkE.flat (R.drop i)) (mkE.cells m) i R.length hX hY rfl (Nat.le_of_lt hi) ht (by omega)
  have hsize : (Try.prog.info? 32).map (·.size) = some 3 := by
    obtain ⟨i0, hi, hz0, hz1, hz2⟩ := info_parts infoMark
    rw [hi]; simp [hz1]
  have hl1 : (lay cur.toList ((i + 1) * 3) (mkE.flat (R.drop i))).length = c * 3 := by rw [lay_len _ _ _ (by rw [hY, hcurl]; omega), hcurl]
  have hl2 : (lay (lay cur.toList ((i + 1) * 3) (mkE.flat (R.drop i))) (i * 3) (mkE.cells m)).length = c * 3 := by rw [lay_len _ _ _ (by rw [hl1, mkE.len]; show i * 3 + 3 ≤ c * 3; omega), hl1]
  have hsrcY : ∀ j v, (mkE.flat (R.drop i))[j]? = some v → w.cell? ⟨g, i * 3 + j, none⟩ = some v := fun j v hj => by
    have hj2 : j < (R.length - i) * 3 := by
      have := (List.getElem?_eq_some_iff.1 hj).1
      omega
    refine heap_cell hg ?_
    have e : (cur.toList.take (R.length * 3))[i * 3 + j]? = some v := by
      rw [ht, List.getElem?_append_right (by omega), hX, Nat.add_sub_cancel_left]
      exact hj
    rw [List.getElem?_take, if_pos (by omega)] at e
    exact e
  have hov : ∀ lb cb, (callFunc 55 #[.slice (some ⟨bv, 0, none⟩) 1 1, .slice (some ⟨g, (i + 1) * 3, none⟩) lb cb]).run Try.prog w = .ok (.value (.bool false)) w := fun lb cb => by
    rw [run_callFunc_extern Try.func55 (by kernel_rfl) (by kernel_rfl) (by kernel_rfl) (e := Extern.SlicesOverlaps.overlaps #[22, 22] #[4]) (by kernel_rfl),
      Lib.run_overlaps_apart w 22 4 32 Try.underlying22 3 Try.sizeOf32 ⟨bv, 0, none⟩ ⟨g, (i + 1) * 3, none⟩ 1 1 lb cb hne 32 32 3 (c * 3) (by simp [World.shape?, hm, boxM]) (by simp [World.shape?, hg, hcs]) (by omega) (by simp [World.frozen?, hm, boxM]) (by simp [World.frozen?, hm, boxM])]
    rfl
  have hcp1 : ∀ ty dc sc, (Builtin.copy_ #[22, 22] ty #[.slice (some ⟨g, (i + 1) * 3, none⟩) (R.length - i) dc, .slice (some ⟨g, i * 3, none⟩) (R.length + 1 - i) sc]).run Try.prog w.drew =
      .ok (goInt ((R.length - i : Nat) : Int)) (w.drew.setRow g (lay cur.toList ((i + 1) * 3) (mkE.flat (R.drop i))).toArray) := fun ty dc sc => by
    have := run_copyK (P := Try.prog) w.drew 22 22 ty 32 g ((i + 1) * 3) (R.length - i) dc ⟨g, i * 3, none⟩ (R.length + 1 - i) sc cur 32 (mkE.flat (R.drop i)) 3 Try.underlying22 hsize hg
      (by rw [hY]; congr 1; simp only [Nat.min_def]; split <;> omega) (fun j v hj => by rw [Addr.add_lit]; exact hsrcY j v hj) (by rw [hY]; omega) h1Y
    rw [show Nat.min (R.length + 1 - i) (R.length - i) = R.length - i by simp only [Nat.min_def]; split <;> omega] at this
    exact this
  have hcp2 : ∀ ty dc, (Builtin.copy_ #[22, 22] ty #[.slice (some ⟨g, i * 3, none⟩) (R.length + 1 - i) dc, .slice (some ⟨bv, 0, none⟩) 1 1]).run Try.prog (w.drew.setRow g (lay cur.toList ((i + 1) * 3) (mkE.flat (R.drop i))).toArray) =
      .ok (goInt 1) ((w.drew.setRow g (lay cur.toList ((i + 1) * 3) (mkE.flat (R.drop i))).toArray).setRow g (lay (lay cur.toList ((i + 1) * 3) (mkE.flat (R.drop i))) (i * 3) (mkE.cells m)).toArray) := fun ty dc => by
    have := run_copyK (P := Try.prog) (w.drew.setRow g (lay cur.toList ((i + 1) * 3) (mkE.flat (R.drop i))).toArray) 22 22 ty 32 g (i * 3) (R.length + 1 - i) dc ⟨bv, 0, none⟩ 1 1 (lay cur.toList ((i + 1) * 3) (mkE.flat (R.drop i))).toArray 32 (mkE.cells m) 3 Try.underlying22 hsize (setRow_heap _ _ _ _ _ _ hg)
      (by rw [mkE.len]; show 3 = _; rw [show Nat.min 1 (R.length + 1 - i) = 1 by simp only [Nat.min_def]; split <;> omega])
      (fun j v hj => by
        rw [Addr.add_lit, Nat.zero_add]
        have e : (w.drew.setRow g (lay cur.toList ((i + 1) * 3) (mkE.flat (R.drop i))).toArray).heap[bv]? = some (boxM m) := by rw [setRow_other _ _ _ _ hne]; exact hm
        unfold boxM at e
        exact heap_cell e hj)
      (by rw [List.size_toArray, hl1, mkE.len]; show i * 3 + 3 ≤ c * 3; omega) h1m
    rw [show Nat.min 1 (R.length + 1 - i) = 1 by simp only [Nat.min_def]; split <;> omega] at this
    simpa [lay] using this
  have hend : ((w.drew.setRow g (lay cur.toList ((i + 1) * 3) (mkE.flat (R.drop i))).toArray).setRow g (lay (lay cur.toList ((i + 1) * 3) (mkE.flat (R.drop i))) (i * 3) (mkE.cells m)).toArray).ownsRow B 32 3 (.slice (some ⟨g, 0, none⟩) (R.length + 1) c) (R.length + 1) (mkE.flat (R.take i ++ m :: R.drop i)) := by
    rw [hfin]
    refine ⟨?_, .inr ⟨g, c, _, rfl, hBg, setRow_heap _ _ _ _ _ _ (setRow_heap _ _ _ _ _ _ hg), hroom, hcm, ?_, ?_⟩⟩
    · rw [List.length_append, List.length_append, hX, hY, mkE.len]; show i * 3 + (3 + _) = _; omega
    · rw [List.size_toArray, hl2]
    · exact hlay
  have hbel := below_row (B := B) (g := g) (w0 := w) (w := w.drew.setRow g (lay cur.toList ((i + 1) * 3) (mkE.flat (R.drop i))).toArray) (below_row (Below.refl B w).drew hBg _) hBg (lay (lay cur.toList ((i + 1) * 3) (mkE.flat (R.drop i))) (i * 3) (mkE.cells m)).toArray
  have HE := Lib.hid hend; have HBel := Lib.hid hbel
  clear hend hbel hlay hfin hXY hsrcY hX hY h1Y h1m hl1 hl2 hcurl hcs ht hg hm hown hcl3
  generalize (lay (lay cur.toList ((i + 1) * 3) (mkE.flat (R.drop i))) (i * 3) (mkE.cells m)).toArray = C2 at *
  generalize (lay cur.toList ((i + 1) * 3) (mkE.flat (R.drop i))).toArray = C1 at *
  have hc63 : c ≤ 9223372036854775807 := by unfold maxLen at hcm; omega
  have hz2 : ¬ ((i : Int) = (R.length : Int)) := by omega
  have hz3 : ¬ ((c : Int) < (R.length : Int) + 1) := by omega
  have hb2 : ¬ (c = i + 1) := by omega
  have hb3 : (i : Int) ≤ (R.length : Int) + 1 := by omega
  have hb4 : ¬ (c = i) := by omega
  have htn : ((i : Int) + 1).toNat = i + 1 := by omega
  have mixed : Try.prog.follows .mixedOrders = true := by kernel_rfl
  have hw1 : IntKind.i64.wrap ((i : Int) + 1) = (i : Int) + 1 := by rw [IntKind.wrap_i64]; omega
  have hb1 : (0 : Int) ≤ (i : Int) + 1 := by omega
  have hin : i ≤ R.length := by omega
  go_enter Try.func35, Try.ntmps35
  go_wp2_with (simp only [hov])
  go_region_law_o (refine step_copyX rfl _ _ 22 22 rfl _ _ (by simp [Act.eval, Act.put]) (by simp [Act.eval, Act.put]) (hcp1 _ _ _) ?_)
  go_wp2_with (at_builtin; refine wpList_copyX rfl _ _ 22 22 rfl _ _ rfl rfl (hcp2 _ _) ?_)
  go_ret
  exact ⟨_, rfl, HE.out, HBel.out⟩

theorem lay_grow (K : Nat) (cur X Y c : List Value) (i : Nat) (n : Nat) (hX : X.length = i * K) (hY : Y.length = (n - i) * K) (hc : c.length = K) (hi : i ≤ n) (ht : cur.take (i * K) = X) (_hl : (n + 1) * K ≤ cur.length) :
    (lay (lay cur (i * K) c) ((i + 1) * K) Y).take ((n + 1) * K) = X ++ (c ++ Y) := by
  have e0 : n * K = i * K + (n - i) * K := by rw [← Nat.add_mul]; congr 1; omega
  have e1 : (i + 1) * K = i * K + K := by rw [Nat.add_mul, Nat.one_mul]
  have e2 : (n + 1) * K = i * K + K + (n - i) * K := by rw [Nat.add_mul, Nat.one_mul, e0]; omega
  unfold lay
  rw [e1, e2, ht, hc, hY]
  have a1 : (X ++ c ++ cur.drop (i * K + K)).take (i * K + K) = X ++ c := List.take_left' (by rw [List.length_append, hX, hc])
  rw [a1, List.append_assoc X c Y, List.take_left' (by rw [List.length_append, List.length_append, hX, hc, hY]; omega)]

set_option maxHeartbeats 4000000 in
set_option maxRecDepth 100000 in
theorem insert_grow (w : World) (B : Nat) (R : List Mk) (g c i : Nat) (m : Mk) (bv : Nat) (hown : w.ownsRow B 32 3 (.slice (some ⟨g, 0, none⟩) R.length c) R.length (mkE.flat R)) (hB : B ≤ w.heap.size)
    (hm : w.heap[bv]? = some (boxM m)) (hi : i < R.length) (hroom : c < R.length + 1) (hl : R.length ≤ 1000) :
    Calls Try.prog 35 #[.slice (some ⟨g, 0, none⟩) R.length c, .int .i64 i, .slice (some ⟨bv, 0, none⟩) 1 1] w fun e w' => ∃ v', e = .returned v' ∧ w'.ownsRow B 32 3 v' (R.length + 1) (mkE.flat (R.take i ++ m :: R.drop i)) ∧ Below B w w' := by
  obtain ⟨cur, hBg, hg, hnc, hcm, hcs, ht, -⟩ := own_heap hown
  have hgw := (hown.lt g rfl).2
  have hbw : bv < w.heap.size := (Array.getElem?_eq_some_iff.1 hm).1
  obtain ⟨i0, hi0, hz0, hz1, hz2⟩ := info_parts infoMark
  have hX : (mkE.flat (R.take i)).length = i * 3 := by rw [mkE.flat_len, List.length_take, Nat.min_eq_left (by omega)]; rfl
  have hY : (mkE.flat (R.drop i)).length = (R.length - i) * 3 := by rw [mkE.flat_len, List.length_drop]; rfl
  have hXY : mkE.flat R = mkE.flat (R.take i) ++ mkE.flat (R.drop i) := by rw [← mkE.flat_append, List.take_append_drop]
  have hfin : mkE.flat (R.take i ++ m :: R.drop i) = mkE.flat (R.take i) ++ (mkE.cells m ++ mkE.flat (R.drop i)) := by rw [mkE.flat_append, mkE.flat_cons]
  have h1Y := mkE.flat_one (R.drop i)
  have h1m := mkE.one m
  rw [hXY] at ht
  have hsize : (Try.prog.info? 32).map (·.size) = some 3 := by rw [hi0]; simp [hz1]
  have hat : ∀ k v, k < R.length * 3 → (mkE.flat (R.take i) ++ mkE.flat (R.drop i))[k]? = some v → w.cell? ⟨g, k, none⟩ = some v := fun k v hk hj => by
    refine heap_cell hg ?_
    have e : (cur.toList.take (R.length * 3))[k]? = some v := by rw [ht]; exact hj
    rw [List.getElem?_take, if_pos hk] at e
    exact e
  have hsrcX : ∀ j v, (mkE.flat (R.take i))[j]? = some v → w.cell? ⟨g, j, none⟩ = some v := fun j v hj => by
    have hj2 := (List.getElem?_eq_some_iff.1 hj).1
    exact hat j v (by omega) (by rw [List.getElem?_append_left hj2]; exact hj)
  have hsrcY : ∀ j v, (mkE.flat (R.drop i))[j]? = some v → w.cell? ⟨g, i * 3 + j, none⟩ = some v := fun j v hj => by
    have hj2 := (List.getElem?_eq_some_iff.1 hj).1
    exact hat _ v (by omega) (by rw [List.getElem?_append_right (by omega), hX, Nat.add_sub_cancel_left]; exact hj)
  have hold : (Builtin.firstCells i0.size i (.slice (some ⟨g, 0, none⟩) i c)).run Try.prog w.drew = .ok (mkE.flat (R.take i)).toArray w.drew := by
    rw [hz1]
    exact run_firstCells_some w.drew 3 i ⟨g, 0, none⟩ i c (mkE.flat (R.take i)) hX (fun j v hj => by rw [Addr.add_lit, Nat.zero_add]; exact hsrcX j v hj)
  have hkk : (R.length : Int) + 1 - (i : Int) = ((R.length + 1 - i : Nat) : Int) := by omega
  have hik : i + (R.length + 1 - i) = R.length + 1 := by omega
  have hrz : ∀ ty, (Builtin.append_ #[22, 3] ty #[.slice (some ⟨g, 0, none⟩) i c, .int .i64 ((R.length : Int) + 1 - (i : Int))]).run Try.prog w =
      .ok (.slice (some ⟨w.heap.size, 0, none⟩) (R.length + 1) (grownCap w (R.length + 1) c 32)) (w.drew.alloc (.cells ((mkE.flat (R.take i)).toArray ++ Builtin.zeroCells (Value.agg #[.int .u32 0, .int .i64 0, .int .u8 0]).cells (R.length + 1 - i) ++ Builtin.zeroCells (Value.agg #[.int .u32 0, .int .i64 0, .int .u8 0]).cells (grownCap w (R.length + 1) c 32 - (R.length + 1))) 32)) := fun ty => by
    have h := Lib.run_append_grow_zeros w 22 3 ty 32 i0 _ .i64 .i64 Try.underlying22 Try.underlying3 hi0 hz0 (some ⟨g, 0, none⟩) i c (mkE.flat (R.take i)) hold (R.length + 1 - i) (by omega) (by omega) (by omega) (by omega) (by rw [hz2]; omega) (by rw [hz2, hik]; exact growslice_fits hroom (by omega))
    rw [hik] at h
    rw [hkk]
    exact h
  obtain ⟨G, hG⟩ : ∃ G, G = grownCap w (R.length + 1) c 32 := ⟨_, rfl⟩
  obtain ⟨ROW, hROW⟩ : ∃ ROW : Array Value, ROW = (mkE.flat (R.take i)).toArray ++ Builtin.zeroCells (Value.agg #[.int .u32 0, .int .i64 0, .int .u8 0]).cells (R.length + 1 - i) ++ Builtin.zeroCells (Value.agg #[.int .u32 0, .int .i64 0, .int .u8 0]).cells (G - (R.length + 1)) := ⟨_, rfl⟩
  rw [← hG] at hrz
  rw [← hROW] at hrz
  have hGn : R.length + 1 ≤ G := by rw [hG]; exact grownCap_ge w _ _ _
  have hGm : G ≤ maxLen := by rw [hG]; exact grownCap_le_maxLen w (R.length + 1) c 32 (by unfold maxLen; omega)
  have hRs : ROW.size = G * 3 := by
    rw [hROW]
    simp [Builtin.zeroCells, Value.cells, hX]
    omega
  have hRt : ROW.toList.take (i * 3) = mkE.flat (R.take i) := by
    rw [hROW, Array.toList_append, Array.toList_append, List.append_assoc]
    exact List.take_left' hX
  have hRl : ROW.toList.length = G * 3 := by rw [Array.length_toList]; exact hRs
  have hmul := Nat.mul_le_mul_right 3 hGn
  have hlay := lay_grow 3 ROW.toList (mkE.flat (R.take i)) (mkE.flat (R.drop i)) (mkE.cells m) i R.length hX hY rfl (Nat.le_of_lt hi) hRt (by omega)
  have hl1 : (lay ROW.toList (i * 3) (mkE.cells m)).length = G * 3 := by rw [lay_len _ _ _ (by rw [hRl, mkE.len]; show i * 3 + 3 ≤ G * 3; omega), hRl]
  have hl2 : (lay (lay ROW.toList (i * 3) (mkE.cells m)) ((i + 1) * 3) (mkE.flat (R.drop i))).length = G * 3 := by rw [lay_len _ _ _ (by rw [hY, hl1]; omega), hl1]
  have hNw : (w.alloc (.cells ROW 32)).drew.heap[w.heap.size]? = some (.cells ROW 32 (0, 0)) := heap_alloc_new w _
  have hcpA : ∀ ty dc, (Builtin.copy_ #[22, 22] ty #[.slice (some ⟨w.heap.size, i * 3, none⟩) (R.length + 1 - i) dc, .slice (some ⟨bv, 0, none⟩) 1 1]).run Try.prog (w.alloc (.cells ROW 32)).drew =
      .ok (goInt 1) ((w.alloc (.cells ROW 32)).drew.setRow w.heap.size (lay ROW.toList (i * 3) (mkE.cells m)).toArray) := fun ty dc => by
    have := run_copyK (P := Try.prog) (w.alloc (.cells ROW 32)).drew 22 22 ty 32 w.heap.size (i * 3) (R.length + 1 - i) dc ⟨bv, 0, none⟩ 1 1 ROW 32 (mkE.cells m) 3 Try.underlying22 hsize hNw
      (by rw [mkE.len]; show 3 = _; rw [show Nat.min 1 (R.length + 1 - i) = 1 by simp only [Nat.min_def]; split <;> omega])
      (fun j v hj => by
        rw [Addr.add_lit, Nat.zero_add]
        have e : (w.alloc (.cells ROW 32)).drew.heap[bv]? = some (boxM m) := (Below.heap_alloc w _ bv hbw).trans hm
        unfold boxM at e
        exact heap_cell e hj)
      (by rw [hRs, mkE.len]; show i * 3 + 3 ≤ G * 3; omega) h1m
    rw [show Nat.min 1 (R.length + 1 - i) = 1 by simp only [Nat.min_def]; split <;> omega] at this
    exact this
  have hN2 : ((w.alloc (.cells ROW 32)).drew.setRow w.heap.size (lay ROW.toList (i * 3) (mkE.cells m)).toArray).drew.heap[w.heap.size]? = some (.cells (lay ROW.toList (i * 3) (mkE.cells m)).toArray 32 (0, 0)) := setRow_heap _ _ _ _ _ _ hNw
  have hgN : g ≠ w.heap.size := by omega
  have hcpB : ∀ ty dc sc, (Builtin.copy_ #[22, 22] ty #[.slice (some ⟨w.heap.size, (i + 1) * 3, none⟩) (R.length - i) dc, .slice (some ⟨g, i * 3, none⟩) (R.length - i) sc]).run Try.prog ((w.alloc (.cells ROW 32)).drew.setRow w.heap.size (lay ROW.toList (i * 3) (mkE.cells m)).toArray).drew =
      .ok (goInt ((R.length - i : Nat) : Int)) (((w.alloc (.cells ROW 32)).drew.setRow w.heap.size (lay ROW.toList (i * 3) (mkE.cells m)).toArray).drew.setRow w.heap.size (lay (lay ROW.toList (i * 3) (mkE.cells m)) ((i + 1) * 3) (mkE.flat (R.drop i))).toArray) := fun ty dc sc => by
    have := run_copyK (P := Try.prog) ((w.alloc (.cells ROW 32)).drew.setRow w.heap.size (lay ROW.toList (i * 3) (mkE.cells m)).toArray).drew 22 22 ty 32 w.heap.size ((i + 1) * 3) (R.length - i) dc ⟨g, i * 3, none⟩ (R.length - i) sc (lay ROW.toList (i * 3) (mkE.cells m)).toArray 32 (mkE.flat (R.drop i)) 3 Try.underlying22 hsize hN2
      (by rw [hY]; congr 1; simp only [Nat.min_def]; split <;> omega)
      (fun j v hj => by
        rw [Addr.add_lit]
        have e : ((w.alloc (.cells ROW 32)).drew.setRow w.heap.size (lay ROW.toList (i * 3) (mkE.cells m)).toArray).drew.heap[g]? = w.heap[g]? := (setRow_other (w.alloc (.cells ROW 32)).drew w.heap.size g _ hgN).trans (Below.heap_alloc w _ g hgw)
        exact (World.cell?_of_block (a := ⟨g, i * 3 + j, none⟩) e).trans (hsrcY j v hj))
      (by rw [List.size_toArray, hl1, hY]; omega) h1Y
    rw [show Nat.min (R.length - i) (R.length - i) = R.length - i by simp only [Nat.min_def]; split <;> omega] at this
    simpa [lay] using this
  have hend : (((w.alloc (.cells ROW 32)).drew.setRow w.heap.size (lay ROW.toList (i * 3) (mkE.cells m)).toArray).drew.setRow w.heap.size (lay (lay ROW.toList (i * 3) (mkE.cells m)) ((i + 1) * 3) (mkE.flat (R.drop i))).toArray).ownsRow B 32 3 (.slice (some ⟨w.heap.size, 0, none⟩) (R.length + 1) G) (R.length + 1) (mkE.flat (R.take i ++ m :: R.drop i)) := by
    rw [hfin]
    refine ⟨?_, .inr ⟨w.heap.size, G, _, rfl, hB, setRow_heap _ _ _ _ _ _ hN2, hGn, hGm, ?_, ?_⟩⟩
    · rw [List.length_append, List.length_append, hX, hY, mkE.len]; show i * 3 + (3 + _) = _; omega
    · rw [List.size_toArray, hl2]
    · exact hlay
  have hbel := below_row (B := B) (g := w.heap.size) (w0 := w) (below_row (B := B) (g := w.heap.size) (w0 := w) (((Below.refl B w).alloc hB (.cells ROW 32)).drew) hB (lay ROW.toList (i * 3) (mkE.cells m)).toArray).drew hB (lay (lay ROW.toList (i * 3) (mkE.cells m)) ((i + 1) * 3) (mkE.flat (R.drop i))).toArray
  have HE := Lib.hid hend; have HBel := Lib.hid hbel
  clear hend hbel hlay hfin hXY hsrcX hsrcY hX hY h1Y h1m hl1 hl2 hcs ht hg hm hown hat hold hkk hik hRs hRt hRl hmul hNw hN2 hi0 hz0 hz1 hz2 hROW hG
  generalize (lay (lay ROW.toList (i * 3) (mkE.cells m)) ((i + 1) * 3) (mkE.flat (R.drop i))).toArray = C2 at *
  generalize (lay ROW.toList (i * 3) (mkE.cells m)).toArray = C1 at *
  have hc63 : c ≤ 9223372036854775807 := by unfold maxLen at hcm; omega
  have hG63 : G ≤ 9223372036854775807 := by unfold maxLen at hGm; omega
  have hz2 : ¬ ((i : Int) = (R.length : Int)) := by omega
  have hz3 : (c : Int) < (R.length : Int) + 1 := by omega
  have hGi : ¬ (G = i) := by omega
  have hGim : ¬ (G = i + 1) := by omega
  have hci : ¬ (c = i) := by omega
  have hb3 : (i : Int) ≤ (R.length : Int) + 1 := by omega
  have hb4 : (i : Int) ≤ (R.length : Int) := by omega
  have hb5 : i ≤ c := by omega
  have htn : ((i : Int) + 1).toNat = i + 1 := by omega
  have mixed : Try.prog.follows .mixedOrders = true := by kernel_rfl
  have hw1 : IntKind.i64.wrap ((i : Int) + 1) = (i : Int) + 1 := by rw [IntKind.wrap_i64]; omega
  have hb1 : (0 : Int) ≤ (i : Int) + 1 := by omega
  have hin : i ≤ R.length := by omega
  go_enter Try.func35, Try.ntmps35
  go_wp2_with (first
    | (at_builtin; refine wpList_appendX rfl _ _ 22 3 rfl _ _ rfl rfl (hrz _) ?_)
    | (at_builtin; refine wpList_copyX rfl _ _ 22 22 rfl _ _ rfl rfl (hcpA _ _) ?_))
  go_region_law_o (refine step_copyX rfl _ _ 22 22 rfl _ _ (by simp [Act.eval, Act.put]) (by simp [Act.eval, Act.put]) (hcpB _ _ _) ?_)
  go_wp2
  go_ret
  exact ⟨_, rfl, HE.out, HBel.out⟩

theorem insert_any (w : World) (B : Nat) (R : List Mk) (A : Option Addr) (c i : Nat) (m : Mk) (bv : Nat) (hown : w.ownsRow B 32 3 (.slice A R.length c) R.length (mkE.flat R)) (hB : B ≤ w.heap.size)
    (hm : w.heap[bv]? = some (boxM m)) (hne : (Value.slice A R.length c).ownBlock ≠ some bv) (hi : i ≤ R.length) (hl : R.length ≤ 1000) :
    Calls Try.prog 35 #[.slice A R.length c, .int .i64 i, .slice (some ⟨bv, 0, none⟩) 1 1] w fun e w' => ∃ v', e = .returned v' ∧ w'.ownsRow B 32 3 v' (R.length + 1) (mkE.flat (R.take i ++ m :: R.drop i)) ∧ Below B w w' := by
  by_cases h1 : i = R.length
  · subst h1
    rw [List.take_length, List.drop_length]
    unfold boxM at hm
    exact insert_end w B R A c m bv hown hB ⟨heap_cell hm rfl, heap_cell hm rfl, heap_cell hm rfl⟩ hl
  · obtain ⟨g, c', hv, -⟩ := hown.form (by omega)
    obtain ⟨rfl, rfl⟩ : A = some ⟨g, 0, none⟩ ∧ c = c' := by injection hv with e1 e2 e3; exact ⟨e1, e3⟩
    by_cases h2 : R.length + 1 ≤ c
    · exact insert_room w B R g c i m bv hown hm (fun e => hne (by rw [e]; rfl)) (by omega) h2 hl
    · exact insert_grow w B R g c i m bv hown hB hm (by omega) (by omega) hl

end Go.Proofs.Ytibmnkdeepmabaa
