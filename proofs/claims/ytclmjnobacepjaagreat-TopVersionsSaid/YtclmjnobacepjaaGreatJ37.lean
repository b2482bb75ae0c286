/- freelist.New, arena.New, at 1000 slots and 3 generations. -/
import Derived.Test.YtclmjnobacepjaaGreatJ36
import Derived.BigQuiet
namespace Go.Proofs.YtclmjnobacepjaaGreat
open Go.RowKit

theorem infoU64 : (Tryz.prog.info? 28).map (fun i => (i.zero, i.size, i.bytes)) = some (some (.int .u64 0), 1, 8) := by kernel_rfl
theorem infoSt : (Tryz.prog.info? 117).map (fun i => (i.zero, i.size, i.bytes)) = some (some (.int .u8 0), 1, 1) := by kernel_rfl
theorem hmk1 (W : World) (t e : TypeId) (z : Value) (by_ : Nat) (hu : Tryz.prog.underlying t = some (.slice e)) (hinfo : (Tryz.prog.info? e).map (fun i => (i.zero, i.size, i.bytes)) = some (some z, 1, by_)) (hz : z.cells = #[z]) (hby : by_ ≤ 100) (n : Nat) (h2 : 1 ≤ n) (h4 : n ≤ 1000) : (Instr.makeSlice t (.int .i64 n) (.int .i64 n)).run Tryz.prog W = .ok (.slice (some ⟨W.heap.size, 0, none⟩) n n) (W.alloc (.cells (List.replicate n z).toArray e)) := by
  obtain ⟨i, hi, hz0⟩ : ∃ i, Tryz.prog.info? e = some i ∧ (i.zero, i.size, i.bytes) = (some z, 1, by_) := by
    obtain ⟨i, hi⟩ : ∃ i, Tryz.prog.info? e = some i := by
      cases h : Tryz.prog.info? e with
      | none => rw [h] at hinfo; simp at hinfo
      | some i => exact ⟨i, rfl⟩
    rw [hi] at hinfo
    exact ⟨i, hi, Option.some.inj hinfo⟩
  obtain ⟨hz0, hz1⟩ := Prod.mk.inj hz0
  obtain ⟨hz1, hz2⟩ := Prod.mk.inj hz1
  have := run_makeSlice (P := Tryz.prog) W t e i _ hu hi hz0 .i64 .i64 n n (by omega) (Int.le_refl _) (by rw [hz1]; simp; omega) (by rw [hz2]; have : n * by_ ≤ 1000 * 100 := Nat.mul_le_mul h4 hby; have := Nat.mul_comm by_ n; simp; omega) (by omega)
  rw [this, hz1]
  simp only [Int.toNat_natCast, Nat.mul_one]
  rw [hz, made_one]

def stkN (N i : Nat) : List Nat := (List.range N).map (fun k => if k < i then N - 1 - k else 0)
def genN (N i : Nat) : List Nat := (List.range N).map (fun k => if k < i then 1 else 0)
theorem rep_get (N : Nat) (g : Nat → Nat) (k : Nat) : ((List.range N).map g)[k]? = if k < N then some (g k) else none := by
  by_cases h : k < N
  · rw [if_pos h, List.getElem?_map, List.getElem?_range h]; rfl
  · rw [if_neg h, List.getElem?_eq_none (by rw [List.length_map, List.length_range]; omega)]
theorem rep_eq (N c : Nat) (g : Nat → Nat) (h : ∀ k, k < N → g k = c) : (List.range N).map g = List.replicate N c := by
  apply List.ext_getElem?
  intro k
  rw [rep_get, List.getElem?_replicate]
  by_cases q : k < N
  · rw [if_pos q, if_pos q, h k q]
  · rw [if_neg q, if_neg q]
theorem rep_set (N i : Nat) (g g' : Nat → Nat) (hi : i < N) (h : ∀ k, k < N → k ≠ i → g' k = g k) : ((List.range N).map g).set i (g' i) = (List.range N).map g' := by
  apply List.ext_getElem?
  intro k
  by_cases e : i = k
  · subst e
    rw [rep_get, if_pos hi, List.getElem?_set_self (by rw [List.length_map, List.length_range]; exact hi)]
  · rw [List.getElem?_set_ne e, rep_get, rep_get]
    by_cases q : k < N
    · rw [if_pos q, if_pos q, h k q (Ne.symm e)]
    · rw [if_neg q, if_neg q]
theorem stkN_zero (N : Nat) : stkN N 0 = List.replicate N 0 := rep_eq N 0 _ (fun k _ => if_neg (by omega))
theorem genN_zero (N : Nat) : genN N 0 = List.replicate N 0 := rep_eq N 0 _ (fun k _ => if_neg (by omega))
theorem stkN_set (N i : Nat) (hi : i < N) : (stkN N i).set i (N - 1 - i) = stkN N (i + 1) := by
  have := rep_set N i (fun k => if k < i then N - 1 - k else 0) (fun k => if k < i + 1 then N - 1 - k else 0) hi (fun k _ hne => by
    show (if k < i + 1 then N - 1 - k else 0) = if k < i then N - 1 - k else 0
    by_cases q : k < i
    · rw [if_pos q, if_pos (by omega)]
    · rw [if_neg q, if_neg (by omega)])
  rw [if_pos (show i < i + 1 by omega)] at this
  exact this
theorem genN_set (N i : Nat) (hi : i < N) : (genN N i).set i 1 = genN N (i + 1) := by
  have := rep_set N i (fun k => if k < i then 1 else 0) (fun k => if k < i + 1 then 1 else 0) hi (fun k _ hne => by
    show (if k < i + 1 then 1 else 0) = if k < i then 1 else 0
    by_cases q : k < i
    · rw [if_pos q, if_pos (by omega)]
    · rw [if_neg q, if_neg (by omega)])
  rw [if_pos (show i < i + 1 by omega)] at this
  exact this
theorem genN_end (N : Nat) : genN N N = List.replicate N 1 := rep_eq N 1 _ (fun k h => if_pos h)
theorem stkN_end (N : Nat) : stkN N N = (List.range N).map (fun k => N - 1 - k) := List.map_congr_left fun k hk => if_pos (List.mem_range.1 hk)
theorem stkN_len (N i : Nat) : (stkN N i).length = N := by unfold stkN; rw [List.length_map, List.length_range]
theorem genN_len (N i : Nat) : (genN N i).length = N := by unfold genN; rw [List.length_map, List.length_range]
theorem rep_ints (N : Nat) : (List.replicate N (Value.int .i64 0)).toArray = ints (List.replicate N 0) := by simp [ints]
theorem rep_gens (N : Nat) : (List.replicate N (Value.int .u64 0)).toArray = ((List.replicate N 0).map gv64).toArray := by simp [gv64]
theorem rep_sts (N : Nat) : (List.replicate N (Value.int .u8 0)).toArray = ((List.replicate N 0).map sv8).toArray := by simp [sv8]

/-- the list while it is made -/
structure NewS (w : World) (F : FLb) (i k : Nat) (W : World) : Prop where
  below : Below w.heap.size w W
  list : Bk W F.lb #[.slice (some ⟨F.sb, 0, none⟩) 1000 1000, .slice (some ⟨F.tb, 0, none⟩) 1000 1000, .slice (some ⟨F.gb, 0, none⟩) 1000 1000, .int .u64 3] 100
  stack : Bk W F.sb (ints (stkN 1000 i)) 3
  states : Bk W F.tb (List.replicate 1000 (Value.int .u8 0)).toArray 117
  gens : Bk W F.gb ((genN 1000 k).map gv64).toArray 28
  g : w.heap.size ≤ F.lb ∧ w.heap.size ≤ F.sb ∧ w.heap.size ≤ F.tb ∧ w.heap.size ≤ F.gb
theorem NewS.nd {w : World} {F : FLb} {i k : Nat} {W : World} (h : NewS w F i k W) : F.nd :=
  ⟨bk_ne h.list h.stack (by decide), bk_ne h.list h.states (by decide), bk_ne h.list h.gens (by decide), bk_ne h.stack h.states (by decide), bk_ne h.stack h.gens (by decide), bk_ne h.states h.gens (by decide)⟩

theorem NewS.push {w : World} {F : FLb} {i k : Nat} {W : World} (h : NewS w F i k W) (hi : i < 1000) : NewS w F (i + 1) k (W.setCell ⟨F.sb, i, none⟩ (.int .i64 ((999 - i : Nat) : Int))) := by
  obtain ⟨n1, n2, n3, n4, n5, n6⟩ := h.nd
  refine ⟨bset h.below h.g.2.1, h.list.other n1, ?_, h.states.other (Ne.symm n4), h.gens.other (Ne.symm n5), h.g⟩
  have := h.stack.set i (.int .i64 ((999 - i : Nat) : Int))
  rw [ints_set, show 999 - i = 1000 - 1 - i by omega, stkN_set 1000 i hi] at this
  rw [show 999 - i = 1000 - 1 - i by omega]
  exact this
theorem NewS.gen {w : World} {F : FLb} {i k : Nat} {W : World} (h : NewS w F i k W) (hk : k < 1000) : NewS w F i (k + 1) (W.setCell ⟨F.gb, k, none⟩ (.int .u64 1)) := by
  obtain ⟨n1, n2, n3, n4, n5, n6⟩ := h.nd
  refine ⟨bset h.below h.g.2.2.2, h.list.other n3, h.stack.other n5, h.states.other n6, ?_, h.g⟩
  have := h.gens.set k (gv64 1)
  have e : ((genN 1000 k).map gv64).toArray.setIfInBounds k (gv64 1) = ((genN 1000 (k + 1)).map gv64).toArray := by
    rw [← genN_set 1000 k hk]
    simp [List.map_set]
  rw [e] at this
  exact this
theorem new4 (w : World) (x y z l : Array Value) (tx ty tz tl : TypeId) : Bk ((((w.alloc (.cells x tx)).alloc (.cells y ty)).alloc (.cells z tz)).alloc (.cells l tl)) w.heap.size x tx ∧ Bk ((((w.alloc (.cells x tx)).alloc (.cells y ty)).alloc (.cells z tz)).alloc (.cells l tl)) (w.heap.size + 1) y ty ∧ Bk ((((w.alloc (.cells x tx)).alloc (.cells y ty)).alloc (.cells z tz)).alloc (.cells l tl)) (w.heap.size + 1 + 1) z tz ∧ Bk ((((w.alloc (.cells x tx)).alloc (.cells y ty)).alloc (.cells z tz)).alloc (.cells l tl)) (w.heap.size + 1 + 1 + 1) l tl ∧ Below w.heap.size w ((((w.alloc (.cells x tx)).alloc (.cells y ty)).alloc (.cells z tz)).alloc (.cells l tl)) := by
  refine ⟨(Bk.new _ _ _).alloc.alloc.alloc, (bal2' w).alloc.alloc, ?_, ?_, bal (bal (bal (bal (Below.refl _ _))))⟩
  · have := bal2' (w.alloc (.cells x tx)) (o := .cells y ty) (cs := z) (t := tz)
    rw [World.size_alloc] at this
    exact this.alloc
  · have := bal2' ((w.alloc (.cells x tx)).alloc (.cells y ty)) (o := .cells z tz) (cs := l) (t := tl)
    rw [World.size_alloc, World.size_alloc] at this
    exact this

set_option maxHeartbeats 4000000 in
set_option maxRecDepth 100000 in
theorem fnew_any (w : World) :
    Calls Tryz.prog 15 #[.int .i64 1000, .int .u64 3] w fun e w' => ∃ F : FLb, e = .returned (.tuple #[.pointer (some ⟨F.lb, 0, none⟩), .int .i64 0]) ∧ NewS w F 1000 1000 w' := by
  have m1 : ∀ W, (Instr.makeSlice 95 (.int .i64 1000) (.int .i64 1000)).run Tryz.prog W = .ok (.slice (some ⟨W.heap.size, 0, none⟩) 1000 1000) (W.alloc (.cells (List.replicate 1000 (Value.int .i64 0)).toArray 3)) := fun W => hmk1 W _ _ _ 8 Tryz.underlying95 infoInt rfl (by omega) 1000 (by omega) (by omega)
  have m2 : ∀ W, (Instr.makeSlice 97 (.int .i64 1000) (.int .i64 1000)).run Tryz.prog W = .ok (.slice (some ⟨W.heap.size, 0, none⟩) 1000 1000) (W.alloc (.cells (List.replicate 1000 (Value.int .u8 0)).toArray 117)) := fun W => hmk1 W _ _ _ 1 Tryz.underlying97 infoSt rfl (by omega) 1000 (by omega) (by omega)
  have m3 : ∀ W, (Instr.makeSlice 98 (.int .i64 1000) (.int .i64 1000)).run Tryz.prog W = .ok (.slice (some ⟨W.heap.size, 0, none⟩) 1000 1000) (W.alloc (.cells (List.replicate 1000 (Value.int .u64 0)).toArray 28)) := fun W => hmk1 W _ _ _ 8 Tryz.underlying98 infoU64 rfl (by omega) 1000 (by omega) (by omega)
  have hs0 : (List.replicate 1000 (Value.int .i64 0)).toArray = ints (stkN 1000 0) := by rw [stkN_zero]; exact rep_ints 1000
  have hg0 : (List.replicate 1000 (Value.int .u64 0)).toArray = ((genN 1000 0).map gv64).toArray := by rw [genN_zero]; exact rep_gens 1000
  rw [hs0] at m1
  rw [hg0] at m3
  generalize hR : (List.replicate 1000 (Value.int .u8 0)).toArray = R at m2
  have HR := Lib.hid hR
  generalize hS : ints (stkN 1000 0) = S0 at m1
  have HS := Lib.hid hS
  generalize hG : ((genN 1000 0).map gv64).toArray = G0 at m3
  have HG := Lib.hid hG
  clear hR hS hG hs0 hg0
  go_enter Tryz.func15, Tryz.ntmps15
  go_upto_region 3 with (fail)
  go_cut [6] (fun v W => ∃ F : FLb, v = .pointer (some ⟨F.lb, 0, none⟩) ∧ Hid (NewS w F 0 0 W))
  case first =>
    go_region
    all_goals
      go_wp2_with fail
      go_meet
    all_goals
      first
      | (have q := new4 w S0 R G0 #[.slice (some ⟨w.heap.size, 0, none⟩) 1000 1000, .slice (some ⟨w.heap.size + 1, 0, none⟩) 1000 1000, .slice (some ⟨w.heap.size + 1 + 1, 0, none⟩) 1000 1000, .int .u64 3] 3 117 28 100
         exact ⟨⟨w.heap.size + 1 + 1 + 1, w.heap.size, w.heap.size + 1, w.heap.size + 1 + 1⟩, rfl, Lib.hid ⟨bdr q.2.2.2.2, q.2.2.2.1, by rw [HS.out]; exact q.1, by rw [HR.out]; exact q.2.1, by rw [HG.out]; exact q.2.2.1, by simp only; omega⟩⟩)
      | (have q := new4 w S0 G0 R #[.slice (some ⟨w.heap.size, 0, none⟩) 1000 1000, .slice (some ⟨w.heap.size + 1 + 1, 0, none⟩) 1000 1000, .slice (some ⟨w.heap.size + 1, 0, none⟩) 1000 1000, .int .u64 3] 3 28 117 100
         exact ⟨⟨w.heap.size + 1 + 1 + 1, w.heap.size, w.heap.size + 1 + 1, w.heap.size + 1⟩, rfl, Lib.hid ⟨bdr q.2.2.2.2, q.2.2.2.1, by rw [HS.out]; exact q.1, by rw [HR.out]; exact q.2.2.1, by rw [HG.out]; exact q.2.1, by simp only; omega⟩⟩)
      | (have q := new4 w R S0 G0 #[.slice (some ⟨w.heap.size + 1, 0, none⟩) 1000 1000, .slice (some ⟨w.heap.size, 0, none⟩) 1000 1000, .slice (some ⟨w.heap.size + 1 + 1, 0, none⟩) 1000 1000, .int .u64 3] 117 3 28 100
         exact ⟨⟨w.heap.size + 1 + 1 + 1, w.heap.size + 1, w.heap.size, w.heap.size + 1 + 1⟩, rfl, Lib.hid ⟨bdr q.2.2.2.2, q.2.2.2.1, by rw [HS.out]; exact q.2.1, by rw [HR.out]; exact q.1, by rw [HG.out]; exact q.2.2.1, by simp only; omega⟩⟩)
      | (have q := new4 w R G0 S0 #[.slice (some ⟨w.heap.size + 1 + 1, 0, none⟩) 1000 1000, .slice (some ⟨w.heap.size, 0, none⟩) 1000 1000, .slice (some ⟨w.heap.size + 1, 0, none⟩) 1000 1000, .int .u64 3] 117 28 3 100
         exact ⟨⟨w.heap.size + 1 + 1 + 1, w.heap.size + 1 + 1, w.heap.size, w.heap.size + 1⟩, rfl, Lib.hid ⟨bdr q.2.2.2.2, q.2.2.2.1, by rw [HS.out]; exact q.2.2.1, by rw [HR.out]; exact q.1, by rw [HG.out]; exact q.2.1, by simp only; omega⟩⟩)
      | (have q := new4 w G0 S0 R #[.slice (some ⟨w.heap.size + 1, 0, none⟩) 1000 1000, .slice (some ⟨w.heap.size + 1 + 1, 0, none⟩) 1000 1000, .slice (some ⟨w.heap.size, 0, none⟩) 1000 1000, .int .u64 3] 28 3 117 100
         exact ⟨⟨w.heap.size + 1 + 1 + 1, w.heap.size + 1, w.heap.size + 1 + 1, w.heap.size⟩, rfl, Lib.hid ⟨bdr q.2.2.2.2, q.2.2.2.1, by rw [HS.out]; exact q.2.1, by rw [HR.out]; exact q.2.2.1, by rw [HG.out]; exact q.1, by simp only; omega⟩⟩)
      | (have q := new4 w G0 R S0 #[.slice (some ⟨w.heap.size + 1 + 1, 0, none⟩) 1000 1000, .slice (some ⟨w.heap.size + 1, 0, none⟩) 1000 1000, .slice (some ⟨w.heap.size, 0, none⟩) 1000 1000, .int .u64 3] 28 117 3 100
         exact ⟨⟨w.heap.size + 1 + 1 + 1, w.heap.size + 1 + 1, w.heap.size + 1, w.heap.size⟩, rfl, Lib.hid ⟨bdr q.2.2.2.2, q.2.2.2.1, by rw [HS.out]; exact q.2.2.1, by rw [HR.out]; exact q.2.1, by rw [HG.out]; exact q.1, by simp only; omega⟩⟩)
  case rest =>
    obtain ⟨F, rfl, HN⟩ := hcut
    clear m1 m2 m3 HR HS HG
    go_wp2_with fail
    go_loopw [32] (fun i wr => ∃ j : Nat, j ≤ 1000 ∧ i = .int .i64 j ∧ Hid (NewS w F j j wr)) (fun i _ => 1000 - (intOf i).toNat)
    case atStart => exact ⟨0, by omega, rfl, HN⟩
    case round =>
      obtain ⟨j, hj, rfl, HC⟩ := hrel
      by_cases hlt : j < 1000
      · obtain ⟨c0, c1, c2, c3, -⟩ := HC.out.list.four
        have hll := HC.out.list.lt
        have hsb : ∃ x : Nat, wr.cell? ⟨F.sb, j, none⟩ = some (.int .i64 x) := ⟨(stkN 1000 j)[j]'(by rw [stkN_len]; exact hlt), by rw [HC.out.stack.cell, ints_get (List.getElem?_eq_getElem _)]⟩
        obtain ⟨x, hx⟩ := hsb
        have hfs := HC.out.stack.free j
        have hls := HC.out.stack.lt
        have hji : (j : Int) < 1000 := by omega
        have i1 := Lib.hid (IntWalk.i64_in ((999 : Int) - (j : Int)) ⟨by omega, by omega⟩)
        have v1 := i1.out
        have HP := HC.out.push hlt
        rw [show ((999 - j : Nat) : Int) = (999 : Int) - (j : Int) by omega] at HP
        have HP := Lib.hid HP
        clear HC
        go_upto_region 8 with (fail)
        generalize wr.setCell ⟨F.sb, j, none⟩ (.int .i64 ((999 : Int) - (j : Int))) = W2 at *
        clear c0 c1 c2 c3 hll hx hfs hls
        obtain ⟨c0, c1, c2, c3, -⟩ := HP.out.list.four
        have hll := HP.out.list.lt
        have hgb : ∃ x : Nat, W2.cell? ⟨F.gb, j, none⟩ = some (.int .u64 x) := ⟨(genN 1000 j)[j]'(by rw [genN_len]; exact hlt), by rw [HP.out.gens.cell]; simp [gv64, genN_len, hlt]⟩
        obtain ⟨y, hy⟩ := hgb
        have hfg := HP.out.gens.free j
        have hlg := HP.out.gens.lt
        have HQ := Lib.hid (HP.out.gen hlt)
        clear HP
        go_wp2_with fail
        go_roundw
        case rel => exact ⟨j + 1, by omega, by go_num, HQ⟩
        case measure => simp [intOf]; omega
      · obtain rfl : j = 1000 := by omega
        go_wp2_with fail
        go_ret2
        exact ⟨F, rfl, HC.out⟩

end Go.Proofs.YtclmjnobacepjaaGreat

/- arena.New, at 1000 slots and 3 generations. -/
namespace Go.Proofs.YtclmjnobacepjaaGreat
open Go.RowKit

theorem NewS.fl {w : World} {F : FLb} {W : World} (h : NewS w F 1000 1000 W) : FL W F (stk 0) (stt 0) (List.replicate 1000 1) := by
  have e : stkN 1000 1000 = stk 0 := stkN_end 1000
  have hl : (stk 0).length = 1000 := by unfold stk; rw [List.length_map, List.length_range]
  have hi : ints (stk 0) = ((stk 0).map iv).toArray := rfl
  refine ⟨by rw [hl]; exact h.list, ⟨_, h.stack, ?_, ?_⟩, by omega, ?_, by unfold stt; rw [List.length_append, List.length_replicate, List.length_replicate], ?_, List.length_replicate, h.nd, fun s hs => ?_⟩
  · rw [e, hi, List.size_toArray, List.length_map, hl]
  · rw [e, hi, List.take_of_length_le (by rw [List.length_map]; exact Nat.le_refl _)]
  · have := h.states
    rw [rep_sts] at this
    exact this
  · have := h.gens
    rw [genN_end] at this
    exact this
  · unfold stk at hs
    obtain ⟨i, -, rfl⟩ := List.mem_map.1 hs
    omega

theorem mkMapN (W : World) : (Instr.makeMap 58 none).run Tryz.prog W = .ok (.map (some W.heap.size)) (W.alloc (.map #[] 0)) := by
  simp [Instr.makeMap, go_sem, Tryz.underlying58]

set_option maxHeartbeats 4000000 in
set_option maxRecDepth 100000 in
theorem anew_any (w : World) :
    Calls Tryz.prog 5 #[.int .i64 1000, .int .u64 3] w fun e w' => ∃ A : AF, e = .returned (.tuple #[.pointer (some ⟨A.ba, 0, none⟩), .int .i64 0]) ∧ ArM w' A [] ∧ Below w.heap.size w w' ∧ ∀ k, arT A k → w.heap.size ≤ k := by
  have C := Lib.hid (fnew_any w)
  have hmm := mkMapN
  go_enter Tryz.func5, Tryz.ntmps5
  go_wp2_with fail
  refine C.out.mono ?_
  rintro e w1 ⟨F, rfl, hN⟩
  have HN := Lib.hid hN
  clear hN
  go_wp2_with fail
  go_ret2
  have hN := HN.out
  have hsz := hN.below.size
  have hm : MapIs (w1.alloc (.map #[] 0)) w1.heap.size (fun _ => none) 0 := MapIs.made w1
  refine ⟨⟨w1.heap.size + 1, w1.heap.size, F⟩, rfl, ⟨bal2' w1, ?_, ⟨fun _ => none, hm.alloc _, fun i x hx => by simp at hx, fun k hk => by simp at hk⟩, fun i x hx => by simp at hx, by simp, fun i x hx => by simp at hx, ?_⟩, bal (bal hN.below), fun k hk => ?_⟩
  · exact hN.fl.ext (bal (bal (Below.refl _ _)))
  · have h1 := hN.list.lt; have h2 := hN.stack.lt; have h3 := hN.states.lt; have h4 := hN.gens.lt
    refine ⟨?_, ?_, ?_, ?_, ?_, ?_, ?_, ?_, ?_⟩ <;> simp only <;> omega
  · obtain ⟨g1, g2, g3, g4⟩ := hN.g
    rcases hk with q | q | q | q | q | q <;> simp only at q <;> omega

end Go.Proofs.YtclmjnobacepjaaGreat

/- quartokit.EqualHandles at equal rows; arena.Handles. -/
namespace Go.Proofs.YtclmjnobacepjaaGreat
open Go.RowKit

set_option maxHeartbeats 2000000 in
set_option maxRecDepth 100000 in
theorem eqh_any (A B : Option Addr) (c d : Nat) (l : List Nat) (w : World) (h : Sl hndE w (.slice A l.length c) l) (h' : Sl hndE w (.slice B l.length d) l) (hl : l.length ≤ 100000) :
    Calls Tryz.prog 11 #[.slice A l.length c, .slice B l.length d] w fun e w' => e = .returned (.bool true) ∧ Below w.heap.size w w' := by
  have H := Lib.hid h; have H' := Lib.hid h'
  have hli : (l.length : Int) ≤ 100000 := by omega
  clear h h' hl
  go_enter Tryz.func11, Tryz.ntmps11
  go_wp2_with fail
  go_loopw [5] (fun i wr => ∃ j : Nat, j ≤ l.length ∧ i = .int .i64 j ∧ Hid (Below w.heap.size w wr)) (fun i _ => l.length - (intOf i).toNat)
  case atStart => exact ⟨0, by omega, rfl, Lib.hid (Below.refl _ _)⟩
  case round =>
    obtain ⟨j, hj, rfl, HB⟩ := hrel
    have hsz := HB.out.size
    by_cases hlt : j < l.length
    · obtain ⟨b1, o1, cap1, hv1, hbl1, hcc1⟩ := H.out.hnd (k := j) hlt
      obtain ⟨rfl, rfl⟩ : A = some ⟨b1, o1, none⟩ ∧ c = cap1 := by injection hv1 with e1 e2 e3; exact ⟨e1, e3⟩
      obtain ⟨b2, o2, cap2, hv2, hbl2, hcc2⟩ := H'.out.hnd (k := j) hlt
      obtain ⟨rfl, rfl⟩ : B = some ⟨b2, o2, none⟩ ∧ d = cap2 := by injection hv2 with e1 e2 e3; exact ⟨e1, e3⟩
      have q1 := hcc1 wr HB.out
      have q2 := hcc2 wr HB.out
      have hji : (j : Int) < (l.length : Int) := by omega
      clear hcc1 hv1 hcc2 hv2
      generalize l[j] = m at *
      go_wp2_with fail
      go_quiet (fail)
      go_wp2_with fail
      go_roundw
      case rel => exact ⟨j + 1, by omega, by go_num, Lib.hid (bdrN HB.out)⟩
      case measure => simp [intOf]; omega
    · obtain rfl : j = l.length := by omega
      go_wp2_with fail
      go_ret
      exact ⟨rfl, HB.out⟩

set_option maxHeartbeats 2000000 in
set_option maxRecDepth 100000 in
theorem ahandles_any (A : AF) (G : Ar) (w : World) (hA : ArM w A G) :
    Calls Tryz.prog 12 #[.pointer (some ⟨A.ba, 0, none⟩)] w fun e w' => ∃ B c, e = .returned (.slice B G.length c) ∧ Ow hndE w' w.heap.size 35 (.slice B G.length c) ((List.range G.length).map hd) ∧ Below w.heap.size w w' := by
  have C := Lib.hid (handles_any A.F _ _ w hA.fl (fun x hx => by
    unfold stt at hx
    rcases List.mem_append.1 hx with q | q
    · have := (List.mem_replicate.1 q).2; omega
    · have := (List.mem_replicate.1 q).2; omega))
  rw [stI_stt hA.le, List.length_range] at C
  obtain ⟨c0, c1, -⟩ := hA.ar.six
  have hl := hA.ar.lt
  clear hA
  go_enter Tryz.func12, Tryz.ntmps12
  go_wp2_with fail
  refine C.out.mono ?_
  rintro e w1 ⟨B, c, rfl, ho, hb⟩
  have HO := Lib.hid ho; have HB := Lib.hid hb
  clear ho hb C
  go_wp2_with fail
  go_ret
  exact ⟨B, c, rfl, HO.out, HB.out⟩

end Go.Proofs.YtclmjnobacepjaaGreat
