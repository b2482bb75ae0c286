/- slices.Delete of one mark from a row of the call's own: what it returns. Condition: a row of moderate length. -/
import Derived.Test.YtibmnkdeepmabaaInsert
namespace Go.Proofs.Ytibmnkdeepmabaa
open Go.RowKit

theorem run_append_roomK {P : Program} (w : World) (t ty e : TypeId) (i : TypeInfo) (ht : P.underlying t = some (.slice e)) (hi : P.info? e = some i)
    (g sLen sCap : Nat) (a : Addr) (m c : Nat) (cs : List Value) (cur : Array Value) (t' : TypeId) (hg : w.heap[g]? = some (.cells cur t' (0, 0))) (hn : cs.length = m * i.size)
    (hsrc : ∀ j v, cs[j]? = some v → w.cell? (a.add j) = some v) (hroom : sLen + m ≤ sCap) (hfit : sLen * i.size + cs.length ≤ cur.size) (h1 : ∀ v ∈ cs, v.oneCell' = true) :
    (Builtin.append_ #[t, t] ty #[.slice (some ⟨g, 0, none⟩) sLen sCap, .slice (some a) m c]).run P w = .ok (.slice (some ⟨g, 0, none⟩) (sLen + m) sCap) (w.setRow g (lay cur.toList (sLen * i.size) cs).toArray) := by
  have hfc := run_firstCells_some (P := P) w i.size m a m c cs hn hsrc
  have hst := run_storeCells_at P g (sLen * i.size) t' cs 0 cur w hg (by simpa using hfit) h1
  simp only [Nat.add_zero] at hst
  simp [Builtin.append_, run_underlying ht, sizeOf, typeInfo, hi, Builtin.lenOf, hroom, hfc, Addr.add_lit, hst, lay]

theorem run_clear1 (w : World) (ty : TypeId) (g o c : Nat) (cur : Array Value) (t' : TypeId) (hg : w.heap[g]? = some (.cells cur t' (0, 0))) (hfit : o + 3 ≤ cur.size) :
    (Builtin.clear_ #[22] ty #[.slice (some ⟨g, o, none⟩) 1 c]).run Try.prog w = .ok (.tuple #[]) (w.setRow g (lay cur.toList o [.int .u32 0, .int .i64 0, .int .u8 0]).toArray) := by
  have hst := run_storeCells_at Try.prog g o t' [.int .u32 0, .int .i64 0, .int .u8 0] 0 cur w hg (by simpa using hfit) (by intro v hv; simp at hv; rcases hv with rfl | rfl | rfl <;> rfl)
  have hzc : (Builtin.zeroCells (Value.agg #[.int .u32 0, .int .i64 0, .int .u8 0]).cells 1).toList = [.int .u32 0, .int .i64 0, .int .u8 0] := by kernel_rfl
  simp [Builtin.clear_, run_underlying Try.underlying22, Try.zeroValue32, hzc, hst, lay]

theorem lay_delete (K : Nat) (cur X M Y Z : List Value) (i n : Nat) (hX : X.length = i * K) (hY : Y.length = (n - i) * K) (hi : i ≤ n) (ht : cur.take ((n + 1) * K) = X ++ (M ++ Y)) (_hl : (n + 1) * K ≤ cur.length) :
    (lay (lay cur (i * K) Y) (n * K) Z).take (n * K) = X ++ Y := by
  have e0 : n * K = i * K + (n - i) * K := by rw [← Nat.add_mul]; congr 1; omega
  have e1 : (n + 1) * K = n * K + K := by rw [Nat.add_mul, Nat.one_mul]
  have hx : cur.take (i * K) = X := by
    have h : (cur.take ((n + 1) * K)).take (i * K) = (X ++ (M ++ Y)).take (i * K) := by rw [ht]
    rw [List.take_take, Nat.min_eq_left (by omega), List.take_left' hX] at h
    exact h
  have hc1 : lay cur (i * K) Y = X ++ Y ++ cur.drop (i * K + Y.length) := by rw [lay, hx]
  have hxy : (X ++ Y).length = n * K := by rw [List.length_append, hX, hY, e0]
  rw [lay, hc1, List.take_left' hxy, List.append_assoc, List.take_left' hxy]

set_option maxHeartbeats 4000000 in
set_option maxRecDepth 100000 in
theorem delete_any (w : World) (B : Nat) (R : List Mk) (g c i : Nat) (hown : w.ownsRow B 32 3 (.slice (some ⟨g, 0, none⟩) R.length c) R.length (mkE.flat R)) (_hB : B ≤ w.heap.size) (hi : i < R.length) (hl : R.length ≤ 1000) :
    Calls Try.prog 36 #[.slice (some ⟨g, 0, none⟩) R.length c, .int .i64 i, .int .i64 ((i : Int) + 1)] w fun e w' => ∃ v', e = .returned v' ∧ w'.ownsRow B 32 3 v' (R.length - 1) (mkE.flat (R.take i ++ R.drop (i + 1))) ∧ Below B w w' := by
  obtain ⟨cur, hBg, hg, hnc, hcm, hcs, ht, -⟩ := own_heap hown
  obtain ⟨i0, hi0, hz0, hz1, hz2⟩ := info_parts infoMark
  obtain ⟨n, hn⟩ : ∃ n, R.length = n + 1 := ⟨R.length - 1, by omega⟩
  have hX : (mkE.flat (R.take i)).length = i * 3 := by rw [mkE.flat_len, List.length_take, Nat.min_eq_left (by omega)]; rfl
  have hY : (mkE.flat (R.drop (i + 1))).length = (n - i) * 3 := by rw [mkE.flat_len, List.length_drop, hn]; congr 1; omega
  have hXY : mkE.flat R = mkE.flat (R.take i) ++ (mkE.cells R[i] ++ mkE.flat (R.drop (i + 1))) := by
    conv => lhs; rw [← List.take_append_drop i R, List.drop_eq_getElem_cons hi, mkE.flat_append, mkE.flat_cons]
  have hfin : mkE.flat (R.take i ++ R.drop (i + 1)) = mkE.flat (R.take i) ++ mkE.flat (R.drop (i + 1)) := by rw [mkE.flat_append]
  have h1Y := mkE.flat_one (R.drop (i + 1))
  have hci : (mkE.cells R[i]).length = 3 := mkE.len _
  rw [hXY, hn] at ht
  have hcurl : cur.toList.length = c * 3 := by rw [Array.length_toList]; exact hcs
  have hcl3 : (n + 1) * 3 ≤ c * 3 := Nat.mul_le_mul_right 3 (by omega)
  have hlay := lay_delete 3 cur.toList (mkE.flat (R.take i)) (mkE.cells R[i]) (mkE.flat (R.drop (i + 1))) [.int .u32 0, .int .i64 0, .int .u8 0] i n hX hY (by omega) ht (by omega)
  have hl1 : (lay cur.toList (i * 3) (mkE.flat (R.drop (i + 1)))).length = c * 3 := by rw [lay_len _ _ _ (by rw [hY, hcurl]; omega), hcurl]
  have hl2 : (lay (lay cur.toList (i * 3) (mkE.flat (R.drop (i + 1)))) (n * 3) [.int .u32 0, .int .i64 0, .int .u8 0]).length = c * 3 := by rw [lay_len _ _ _ (by rw [hl1]; show n * 3 + 3 ≤ c * 3; omega), hl1]
  have hsrcY : ∀ j v, (mkE.flat (R.drop (i + 1)))[j]? = some v → w.cell? ⟨g, (i + 1) * 3 + j, none⟩ = some v := fun j v hj => by
    have hj2 := (List.getElem?_eq_some_iff.1 hj).1
    refine heap_cell hg ?_
    have e : (cur.toList.take ((n + 1) * 3))[(i + 1) * 3 + j]? = some v := by
      rw [ht, List.getElem?_append_right (by omega), hX, List.getElem?_append_right (by omega), hci, show (i + 1) * 3 + j - i * 3 - 3 = j by omega]
      exact hj
    rw [List.getElem?_take, if_pos (by omega)] at e
    exact e
  -- the append
  have hap : ∀ (ty : TypeId) (a : Option Addr) (ca : Nat), (n - i = 0 ∧ a.isSome ∨ a = some ⟨g, (i + 1) * 3, none⟩) → (Builtin.append_ #[22, 22] ty #[.slice (some ⟨g, 0, none⟩) i c, .slice a (n - i) ca]).run Try.prog w.drew =
      .ok (.slice (some ⟨g, 0, none⟩) n c) (w.drew.setRow g (lay cur.toList (i * 3) (mkE.flat (R.drop (i + 1)))).toArray) := fun ty a ca ha => by
    obtain ⟨ad, rfl⟩ : ∃ ad, a = some ad := by
      rcases ha with ⟨-, h⟩ | h
      · exact Option.isSome_iff_exists.1 h
      · exact ⟨_, h⟩
    have := run_append_roomK (P := Try.prog) w.drew 22 ty 32 i0 Try.underlying22 hi0 g i c ad (n - i) ca (mkE.flat (R.drop (i + 1))) cur 32 hg (by rw [hY, hz1])
      (fun j v hj => by
        have hj2 := (List.getElem?_eq_some_iff.1 hj).1
        rcases ha with ⟨h, -⟩ | h
        · omega
        · injection h with h
          subst h
          rw [Addr.add_lit]; exact hsrcY j v hj)
      (by omega) (by rw [hz1, hY]; omega) h1Y
    rw [hz1, show i + (n - i) = n by omega] at this
    exact this
  have hcl : ∀ (ty : TypeId) (ca : Nat), (Builtin.clear_ #[22] ty #[.slice (some ⟨g, n * 3, none⟩) 1 ca]).run Try.prog (w.drew.setRow g (lay cur.toList (i * 3) (mkE.flat (R.drop (i + 1)))).toArray) =
      .ok (.tuple #[]) ((w.drew.setRow g (lay cur.toList (i * 3) (mkE.flat (R.drop (i + 1)))).toArray).setRow g (lay (lay cur.toList (i * 3) (mkE.flat (R.drop (i + 1)))) (n * 3) [.int .u32 0, .int .i64 0, .int .u8 0]).toArray) := fun ty ca =>
    run_clear1 _ ty g (n * 3) ca (lay cur.toList (i * 3) (mkE.flat (R.drop (i + 1)))).toArray 32 (setRow_heap _ _ _ _ _ _ hg) (by rw [List.size_toArray, hl1]; omega)
  have hend : ((w.drew.setRow g (lay cur.toList (i * 3) (mkE.flat (R.drop (i + 1)))).toArray).setRow g (lay (lay cur.toList (i * 3) (mkE.flat (R.drop (i + 1)))) (n * 3) [.int .u32 0, .int .i64 0, .int .u8 0]).toArray).ownsRow B 32 3 (.slice (some ⟨g, 0, none⟩) n c) n (mkE.flat (R.take i ++ R.drop (i + 1))) := by
    rw [hfin]
    refine ⟨?_, .inr ⟨g, c, _, rfl, hBg, setRow_heap _ _ _ _ _ _ (setRow_heap _ _ _ _ _ _ hg), by omega, hcm, ?_, ?_⟩⟩
    · rw [List.length_append, hX, hY]; omega
    · rw [List.size_toArray, hl2]
    · exact hlay
  have hbel := below_row (B := B) (g := g) (w0 := w) (below_row (B := B) (g := g) (w0 := w) (Below.refl B w).drew hBg (lay cur.toList (i * 3) (mkE.flat (R.drop (i + 1)))).toArray) hBg (lay (lay cur.toList (i * 3) (mkE.flat (R.drop (i + 1)))) (n * 3) [.int .u32 0, .int .i64 0, .int .u8 0]).toArray
  have HE := Lib.hid hend; have HBel := Lib.hid hbel
  have hnm : R.length - 1 = n := by omega
  rw [hnm]
  rw [hn] at hnc hi hl ⊢
  clear hend hbel hlay hfin hXY hsrcY hX hY h1Y hl1 hl2 hcurl hcs ht hg hown hcl3 hci hi0 hz0 hz1 hz2 hn hnm
  generalize (lay (lay cur.toList (i * 3) (mkE.flat (R.drop (i + 1)))) (n * 3) [.int .u32 0, .int .i64 0, .int .u8 0]).toArray = C2 at *
  generalize (lay cur.toList (i * 3) (mkE.flat (R.drop (i + 1)))).toArray = C1 at *
  have hc63 : c ≤ 9223372036854775807 := by unfold maxLen at hcm; omega
  have hin : i ≤ n := by omega
  have hz1 : ((i : Int) == (i : Int) + 1) = false := by simp; omega
  have mixed : Try.prog.follows .mixedOrders = true := by kernel_rfl
  have hb1 : (0 : Int) ≤ (i : Int) + 1 := by omega
  have hb2 : (i : Int) ≤ (i : Int) + 1 := by omega
  have hb3 : (i : Int) + 1 ≤ (n : Int) + 1 := by omega
  have htn : ((i : Int) + 1).toNat = i + 1 := by omega
  have hb4 : ¬ (c = n) := by omega
  have hb5 : ¬ (c = i) := by omega
  have hsub : n + 1 - (i + 1) = n - i := by omega
  have hb6 : (i : Int) ≤ (n : Int) := by omega
  have hb7 : i ≤ c := by omega
  by_cases hce : c = i + 1
  · have hni : n - i = 0 := by omega
    obtain rfl : i = n := by omega
    subst hce
    have hap2 := fun ty a ca h => hap ty (some a) ca (.inl ⟨hni, h⟩)
    rw [hni] at hap2
    clear hni hb5 hsub
    go_enter Try.func36, Try.ntmps36
    go_wp2_with fail
    go_region_law_o (refine step_appendX rfl _ _ 22 22 rfl (.slice (some ⟨g, 0, none⟩) i (i + 1)) (.slice (some ⟨g, 0, none⟩) 0 0) (by simp [Act.eval, Act.put]) (by simp [Act.eval, Act.put]) (hap2 _ _ _ rfl) ?_)
    go_wp2_with (at_builtin; refine wpList_clearX rfl _ 22 rfl _ rfl (hcl _ _) ?_)
    go_ret
    exact ⟨_, rfl, HE.out, HBel.out⟩
  · have hap2 := fun ty ca => hap ty (some ⟨g, (i + 1) * 3, none⟩) ca (.inr rfl)
    go_enter Try.func36, Try.ntmps36
    go_wp2_with fail
    go_region_law_o (refine step_appendX rfl _ _ 22 22 rfl (.slice (some ⟨g, 0, none⟩) i c) (.slice (some ⟨g, (i + 1) * 3, none⟩) (n - i) (c - (i + 1))) (by simp [Act.eval, Act.put]) (by simp [Act.eval, Act.put]) (hap2 _ _) ?_)
    go_wp2_with (at_builtin; refine wpList_clearX rfl _ 22 rfl _ rfl (hcl _ _) ?_)
    go_ret
    exact ⟨_, rfl, HE.out, HBel.out⟩

end Go.Proofs.Ytibmnkdeepmabaa
