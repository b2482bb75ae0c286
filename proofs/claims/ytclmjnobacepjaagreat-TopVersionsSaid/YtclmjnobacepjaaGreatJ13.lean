/- package chunk: sizes, Even. Condition: numbers of moderate size. -/
import Derived.Test.YtclmjnobacepjaaGreatJ02
import Derived.Deep.OwnRows
namespace Go.Proofs.YtclmjnobacepjaaGreat
open Go.RowKit

/-- how many groups of at most m -/
def grp (n m : Nat) : Nat := n / m + if 0 < n % m then 1 else 0
def szF (n m : Nat) (i : Nat) : Nat := n / grp n m + if i < n % grp n m then 1 else 0
def szL (n m : Nat) : List Nat := (List.range (grp n m)).map (szF n m)

theorem grp_le (n m : Nat) (hm : 0 < m) : n ≤ grp n m * m ∧ (grp n m * m < n + m) := by
  have h1 := Nat.div_add_mod n m
  have h2 := Nat.mod_lt n hm
  have h3 : n / m * m = m * (n / m) := Nat.mul_comm _ _
  unfold grp
  by_cases h : 0 < n % m
  · rw [if_pos h, Nat.succ_mul]; omega
  · rw [if_neg h, Nat.add_zero]; omega
theorem grp_pos {n m : Nat} (hn : 0 < n) (hm : 0 < m) : 0 < grp n m := by
  have := (grp_le n m hm).1
  rcases Nat.eq_zero_or_pos (grp n m) with e | e
  · rw [e] at this; omega
  · exact e
theorem grp_len (n m : Nat) : (szL n m).length = grp n m := by simp [szL]
theorem sum_rng (q r : Nat) : ∀ g, ((List.range g).map fun i => q + if i < r then 1 else 0).sum = g * q + min g r := by
  intro g
  induction g with
  | zero => simp
  | succ g ih =>
    rw [List.range_succ, List.map_append, List.sum_append, ih, Nat.succ_mul]
    simp only [List.map_cons, List.map_nil, List.sum_cons, List.sum_nil, Nat.add_zero]
    split <;> omega
theorem szL_sum {n m : Nat} (hn : 0 < n) (hm : 0 < m) : (szL n m).sum = n := by
  have hg := grp_pos hn hm
  unfold szL szF
  rw [sum_rng]
  have h1 := Nat.div_add_mod n (grp n m)
  have h2 := Nat.mod_lt n hg
  omega
theorem szL_mem {n m k : Nat} (hn : 0 < n) (hm : 0 < m) (hk : k ∈ szL n m) : k ≤ m ∧ n / grp n m ≤ k := by
  obtain ⟨i, hi, rfl⟩ := List.mem_map.1 hk
  have hg := grp_pos hn hm
  have h1 := Nat.div_add_mod n (grp n m)
  have h2 := Nat.mod_lt n hg
  have h3 := (grp_le n m hm).1
  unfold szF
  refine ⟨?_, by omega⟩
  by_cases hq : n / grp n m < m
  · split <;> omega
  · have h4 : grp n m * m ≤ grp n m * (n / grp n m) := Nat.mul_le_mul_left _ (by omega)
    have h5 : n % grp n m = 0 := by omega
    rw [h5, if_neg (by omega)]
    have h6 : grp n m * (n / grp n m) = grp n m * m := by omega
    have := Nat.eq_of_mul_eq_mul_left hg h6
    omega
theorem sz16 {n k : Nat} (hn : 0 < n) (hk : k ∈ szL n 16) : 1 ≤ k ∧ k ≤ 16 ∧ (2 ≤ (szL n 16).length → 8 ≤ k) := by
  obtain ⟨h1, h2⟩ := szL_mem hn (by omega) hk
  have hg := grp_pos hn (show 0 < 16 by omega)
  obtain ⟨h3, h4⟩ := grp_le n 16 (by omega)
  rw [grp_len]
  refine ⟨?_, h1, fun h => ?_⟩
  · have : 1 ≤ n / grp n 16 := (Nat.le_div_iff_mul_le hg).2 (by omega)
    omega
  · have : 8 ≤ n / grp n 16 := (Nat.le_div_iff_mul_le hg).2 (by omega)
    omega
theorem sz4 {n k : Nat} (hn : 2 ≤ n) (hk : k ∈ szL n 4) : 2 ≤ k ∧ k ≤ 4 := by
  obtain ⟨h1, h2⟩ := szL_mem (show 0 < n by omega) (by omega) hk
  have hg := grp_pos (show 0 < n by omega) (show 0 < 4 by omega)
  obtain ⟨h3, h4⟩ := grp_le n 4 (by omega)
  have : 2 ≤ n / grp n 4 := (Nat.le_div_iff_mul_le hg).2 (by omega)
  omega
theorem szL_lt {n : Nat} (hn : 2 ≤ n) : (szL n 4).length < n ∧ 1 ≤ (szL n 4).length := by
  have hg := grp_pos (show 0 < n by omega) (show 0 < 4 by omega)
  obtain ⟨h3, h4⟩ := grp_le n 4 (by omega)
  rw [grp_len]
  omega
theorem szL_take {n m : Nat} (k : Nat) : (szL n m).take k = (List.range (min k (grp n m))).map (szF n m) := by
  unfold szL
  rw [← List.map_take, List.take_range]

set_option maxHeartbeats 400000 in
set_option maxRecDepth 100000 in
theorem sizesC_any (n g i b1 b2 : Nat) (w : World) (h1 : w.cell? ⟨b1, 0, none⟩ = some (.int .i64 n)) (h2 : w.cell? ⟨b2, 0, none⟩ = some (.int .i64 g)) (hg : 0 < g) (hn : n ≤ 65536) (hi : i ≤ 100000) :
    Calls Tryz.prog 80 #[.int .i64 i, .pointer (some ⟨b1, 0, none⟩), .pointer (some ⟨b2, 0, none⟩)] w fun e w' => e = .returned (.int .i64 (n / g + if i < n % g then 1 else 0 : Nat)) ∧ w' = w := by
  have hg1 : (1 : Int) ≤ g := by omega
  have hg0 : ((g : Int) == 0) = false := by rw [beq_eq_false_iff_ne]; omega
  have hm : (((n % g : Nat)) : Int) = (n : Int) % (g : Int) := by simp
  have hq : (((n / g : Nat)) : Int) = (n : Int) / (g : Int) := by simp
  have hdl : n / g ≤ n := Nat.div_le_self n g
  have hdl2 : (n : Int) / (g : Int) ≤ 65536 := by rw [← hq]; exact Int.ofNat_le.2 (Nat.le_trans hdl hn)
  have hdl3 : 0 ≤ (n : Int) / (g : Int) := by rw [← hq]; exact Int.natCast_nonneg _
  by_cases hlt : i < n % g
  · rw [if_pos hlt]
    have hlt2 : (i : Int) < (n : Int) % (g : Int) := by rw [← hm]; omega
    clear hlt hdl hn
    go_enter Tryz.func80, Tryz.ntmps80
    go_wp2
    go_ret
    exact ⟨ret_int (by rw [Int.natCast_add, hq]; rfl), rfl⟩
  · rw [if_neg hlt]
    have hlt2 : (n : Int) % (g : Int) ≤ i := by rw [← hm]; omega
    clear hlt hdl hn
    go_enter Tryz.func80, Tryz.ntmps80
    go_wp2
    go_ret
    exact ⟨ret_int (by rw [Nat.add_zero, hq]), rfl⟩

theorem fill_step (l : List Nat) (n k x : Nat) (h : k < n) (hl : l.length = k) : (l ++ List.replicate (n - k) 0).set k x = (l ++ [x]) ++ List.replicate (n - (k + 1)) 0 := by
  subst hl
  rw [show n - l.length = (n - (l.length + 1)) + 1 by omega, List.replicate_succ]
  simp [List.set_append]
theorem fill_get (l : List Nat) (n k : Nat) (h : k < n) (hl : l.length = k) : (l ++ List.replicate (n - k) 0)[k]? = some 0 := by
  subst hl
  rw [List.getElem?_append_right (Nat.le_refl _), Nat.sub_self, List.getElem?_replicate, if_pos (by omega)]

set_option maxHeartbeats 1000000 in
set_option maxRecDepth 100000 in
theorem sizes_any (n m : Nat) (w : World) (hn : 0 < n) (hn2 : n ≤ 65536) (hm : 0 < m) (hm2 : m ≤ 16) :
    Calls Tryz.prog 62 #[.int .i64 n, .int .i64 m] w fun e w' => ∃ v', e = .returned v' ∧ Ow intE w' w.heap.size 3 v' (szL n m) ∧ Below w.heap.size w w' := by
  obtain ⟨j0, hj, jz0, jz1, jz2⟩ := info_parts infoInt
  have hg := grp_pos hn hm
  have hgn : grp n m ≤ 65536 + 16 := by have := (grp_le n m hm).2; have : grp n m ≤ grp n m * m := Nat.le_mul_of_pos_right _ hm; omega
  have cC := Lib.hid (fun i b1 b2 w h1 h2 hi => sizesC_any n (grp n m) i b1 b2 w h1 h2 hg hn2 hi)
  have hmk := fun w => run_make_row (P := Tryz.prog) 95 3 j0 (.int .i64 0) Tryz.underlying95 hj jz0 jz1 rfl .i64 .i64 (grp n m) (by rw [jz2]; omega) (by omega) w
  have hn0 : ((n : Int) == 0) = false := by rw [beq_eq_false_iff_ne]; omega
  have hm0 : ((m : Int) == 0) = false := by rw [beq_eq_false_iff_ne]; omega
  have hm1 : (1 : Int) ≤ m := by omega
  have hGE := Lib.hid (show grp n m = n / m + if 0 < n % m then 1 else 0 from rfl)
  have hqi : (((n / m : Nat)) : Int) = (n : Int) / (m : Int) := by simp
  have hri : (((n % m : Nat)) : Int) = (n : Int) % (m : Int) := by simp
  have hd1 : 0 ≤ (n : Int) / (m : Int) := by rw [← hqi]; exact Int.natCast_nonneg _
  have hd2 : (n : Int) / (m : Int) ≤ 65536 := by rw [← hqi]; exact Int.ofNat_le.2 (Nat.le_trans (Nat.div_le_self n m) hn2)
  have hrow : ∀ k, k ≤ grp n m → (List.range k).map (szF n m) ++ List.replicate (grp n m - k) 0 = (List.range k).map (szF n m) ++ List.replicate (grp n m - k) 0 := fun _ _ => rfl
  clear hrow
  by_cases hr : 0 < n % m
  · have hr1 : 0 < (n : Int) % (m : Int) := by rw [← hri]; omega
    have HG := Lib.hid (show (n : Int) / (m : Int) + 1 = (grp n m : Int) by rw [hGE.out, if_pos hr]; simp)
    clear hr hGE hqi hri
    have HL := Lib.hid (show ∀ k, (szL n m).take k = (List.range (min k (grp n m))).map (szF n m) from fun k => szL_take k)
    have HZ := Lib.hid (show ∀ i, n / grp n m + (if i < n % grp n m then 1 else 0) = szF n m i from fun _ => rfl)
    have HN := Lib.hid (grp_len n m)
    generalize grp n m = g at *
    go_enter Tryz.func62, Tryz.ntmps62
    go_upto_region 7 with (fail)
    rw [HG.out]
    clear hr1 hd1 hd2 HG
    go_wp2_with fail
    go_loopw [24] (fun i wr => ∃ k : Nat, k ≤ g ∧ i = .int .i64 k ∧ Bk wr w.heap.size #[.int .i64 n] 3 ∧ Bk wr (w.heap.size + 1) #[.int .i64 g] 3 ∧ Bk wr (w.heap.size + 1 + 1) (ints ((szL n m).take k ++ List.replicate (g - k) 0)) 3 ∧ Hid (Below w.heap.size w wr)) (fun i _ => g - (intOf i).toNat)
    case atStart =>
      refine ⟨0, by omega, rfl, ?_, ?_, ?_, ?_⟩
      · exact ((Bk.new _ _ _).alloc).alloc
      · have := (Bk.new (w.alloc (.cells #[.int .i64 n] 3)) #[.int .i64 g] 3).alloc (o := .cells (madeCells #[.int .i64 0] g) 3)
        rw [World.size_alloc] at this; exact this
      · have := Bk.new ((w.alloc (.cells #[.int .i64 n] 3)).alloc (.cells #[.int .i64 g] 3)) (madeCells #[.int .i64 0] g) 3
        rw [World.size_alloc, World.size_alloc] at this
        rw [show ints ((szL n m).take 0 ++ List.replicate (g - 0) 0) = madeCells #[.int .i64 0] g from (made_ints g).symm]
        exact this
      · exact Lib.hid (bal (bal (bal (Below.refl _ _))))
    case round =>
      obtain ⟨k, hk, rfl, h1, h2, h3, hB⟩ := hrel
      have hsz := h3.lt
      by_cases hlt : k < g
      · have hki : (k : Int) < (g : Int) := by omega
        obtain ⟨c1, -⟩ := h1.one
        obtain ⟨c2, -⟩ := h2.one
        have cc := cC.out k w.heap.size (w.heap.size + 1) wr c1 c2 (by omega)
        rw [HZ.out k] at cc
        have CC := Lib.hid cc; clear cc
        have hc : wr.cell? ⟨w.heap.size + 1 + 1, k, none⟩ = some (.int .i64 (0 : Nat)) := by
          rw [h3.cell]
          have hlen : ((szL n m).take k).length = k := by rw [List.length_take, HN.out]; omega
          exact ints_get (fill_get _ g k hlt hlen)
        have hf := h3.free k
        go_wp2_with (go_at_call 80; refine CC.out.mono ?_; rintro e w' ⟨rfl, rfl⟩)
        go_roundw
        case rel =>
          refine ⟨k + 1, by omega, by go_num, h1.other (fun e => by simp only at e; omega), h2.other (fun e => by simp only at e; omega), ?_, Lib.hid (bset hB.out (by simp; omega))⟩
          have h4 := h3.set k (.int .i64 (szF n m k : Nat))
          have hlen : ((szL n m).take k).length = k := by rw [List.length_take, HN.out]; omega
          rw [ints_set, fill_step _ g k _ hlt hlen] at h4
          rw [show (szL n m).take (k + 1) = (szL n m).take k ++ [szF n m k] from by rw [HL.out, HL.out, show min (k + 1) g = k + 1 by omega, show min k g = k by omega, List.range_succ, List.map_append]; rfl]
          exact h4
        case measure => simp [intOf]; omega
      · obtain rfl : k = g := by omega
        rw [Nat.sub_self, List.replicate_zero, List.append_nil, List.take_of_length_le (by rw [HN.out]; omega)] at h3
        go_wp2
        go_ret
        have h5 := ints_ow h3 (show w.heap.size ≤ w.heap.size + 1 + 1 by omega) (by rw [HN.out]; omega)
        rw [HN.out] at h5
        exact ⟨_, rfl, h5, hB.out⟩
  · have hr1 : (n : Int) % (m : Int) ≤ 0 := by rw [← hri]; omega
    have HG := Lib.hid (show (n : Int) / (m : Int) = (grp n m : Int) by rw [hGE.out, if_neg hr]; simp)
    clear hr hGE hqi hri
    have HL := Lib.hid (show ∀ k, (szL n m).take k = (List.range (min k (grp n m))).map (szF n m) from fun k => szL_take k)
    have HZ := Lib.hid (show ∀ i, n / grp n m + (if i < n % grp n m then 1 else 0) = szF n m i from fun _ => rfl)
    have HN := Lib.hid (grp_len n m)
    generalize grp n m = g at *
    go_enter Tryz.func62, Tryz.ntmps62
    go_upto_region 7 with (fail)
    rw [HG.out]
    clear hr1 hd1 hd2 HG
    go_wp2_with fail
    go_loopw [24] (fun i wr => ∃ k : Nat, k ≤ g ∧ i = .int .i64 k ∧ Bk wr w.heap.size #[.int .i64 n] 3 ∧ Bk wr (w.heap.size + 1) #[.int .i64 g] 3 ∧ Bk wr (w.heap.size + 1 + 1) (ints ((szL n m).take k ++ List.replicate (g - k) 0)) 3 ∧ Hid (Below w.heap.size w wr)) (fun i _ => g - (intOf i).toNat)
    case atStart =>
      refine ⟨0, by omega, rfl, ?_, ?_, ?_, ?_⟩
      · exact ((Bk.new _ _ _).alloc).alloc
      · have := (Bk.new (w.alloc (.cells #[.int .i64 n] 3)) #[.int .i64 g] 3).alloc (o := .cells (madeCells #[.int .i64 0] g) 3)
        rw [World.size_alloc] at this; exact this
      · have := Bk.new ((w.alloc (.cells #[.int .i64 n] 3)).alloc (.cells #[.int .i64 g] 3)) (madeCells #[.int .i64 0] g) 3
        rw [World.size_alloc, World.size_alloc] at this
        rw [show ints ((szL n m).take 0 ++ List.replicate (g - 0) 0) = madeCells #[.int .i64 0] g from (made_ints g).symm]
        exact this
      · exact Lib.hid (bal (bal (bal (Below.refl _ _))))
    case round =>
      obtain ⟨k, hk, rfl, h1, h2, h3, hB⟩ := hrel
      have hsz := h3.lt
      by_cases hlt : k < g
      · have hki : (k : Int) < (g : Int) := by omega
        obtain ⟨c1, -⟩ := h1.one
        obtain ⟨c2, -⟩ := h2.one
        have cc := cC.out k w.heap.size (w.heap.size + 1) wr c1 c2 (by omega)
        rw [HZ.out k] at cc
        have CC := Lib.hid cc; clear cc
        have hc : wr.cell? ⟨w.heap.size + 1 + 1, k, none⟩ = some (.int .i64 (0 : Nat)) := by
          rw [h3.cell]
          have hlen : ((szL n m).take k).length = k := by rw [List.length_take, HN.out]; omega
          exact ints_get (fill_get _ g k hlt hlen)
        have hf := h3.free k
        go_wp2_with (go_at_call 80; refine CC.out.mono ?_; rintro e w' ⟨rfl, rfl⟩)
        go_roundw
        case rel =>
          refine ⟨k + 1, by omega, by go_num, h1.other (fun e => by simp only at e; omega), h2.other (fun e => by simp only at e; omega), ?_, Lib.hid (bset hB.out (by simp; omega))⟩
          have h4 := h3.set k (.int .i64 (szF n m k : Nat))
          have hlen : ((szL n m).take k).length = k := by rw [List.length_take, HN.out]; omega
          rw [ints_set, fill_step _ g k _ hlt hlen] at h4
          rw [show (szL n m).take (k + 1) = (szL n m).take k ++ [szF n m k] from by rw [HL.out, HL.out, show min (k + 1) g = k + 1 by omega, show min k g = k by omega, List.range_succ, List.map_append]; rfl]
          exact h4
        case measure => simp [intOf]; omega
      · obtain rfl : k = g := by omega
        rw [Nat.sub_self, List.replicate_zero, List.append_nil, List.take_of_length_le (by rw [HN.out]; omega)] at h3
        go_wp2
        go_ret
        have h5 := ints_ow h3 (show w.heap.size ≤ w.heap.size + 1 + 1 by omega) (by rw [HN.out]; omega)
        rw [HN.out] at h5
        exact ⟨_, rfl, h5, hB.out⟩

end Go.Proofs.YtclmjnobacepjaaGreat

/- package chunk: Even, Chunks, Cut, Join. Condition: texts of moderate size. -/
namespace Go.Proofs.YtclmjnobacepjaaGreat
open Go.RowKit

set_option maxRecDepth 100000 in
theorem even_any (n : Nat) (w : World) (hn : 0 < n) (hn2 : n ≤ 65536) :
    Calls Tryz.prog 46 #[.int .i64 n, .int .i64 4] w fun e w' => ∃ v', e = .returned (.tuple #[v', .int .i64 0]) ∧ Ow intE w' w.heap.size 3 v' (szL n 4) ∧ Below w.heap.size w w' := by
  have cS := Lib.hid (sizes_any n 4 w hn hn2 (by omega) (by omega))
  have h0 : (0 : Int) ≤ n := by omega
  have h1 : (n : Int) ≤ 65536 := by omega
  clear hn hn2
  go_enter Tryz.func46, Tryz.ntmps46
  go_wp2_with (go_at_call 62; refine cS.out.mono ?_; rintro e w' ⟨v', rfl, ho, hb⟩)
  go_ret2
  exact ⟨_, rfl, ho, hb⟩

/-- a text cut into parts of these sizes -/
def cutL : List Nat → List UInt8 → List (List UInt8)
  | [], _ => []
  | k :: r, s => s.take k :: cutL r (s.drop k)
theorem cutL_snoc (l : List Nat) (k : Nat) : ∀ s : List UInt8, cutL (l ++ [k]) s = cutL l s ++ [(s.drop l.sum).take k] := by
  induction l with
  | nil => intro s; simp [cutL]
  | cons x r ih => intro s; simp [cutL, ih, List.drop_drop]
theorem cutL_len (l : List Nat) : ∀ s : List UInt8, (cutL l s).length = l.length := by
  induction l with
  | nil => intro s; rfl
  | cons x r ih => intro s; simp [cutL, ih]
theorem cutL_flat (l : List Nat) : ∀ s : List UInt8, s.length = l.sum → (cutL l s).flatten = s := by
  induction l with
  | nil => intro s h; simp at h; subst h; rfl
  | cons x r ih =>
    intro s h
    rw [List.sum_cons] at h
    rw [cutL, List.flatten_cons, ih _ (by rw [List.length_drop]; omega), List.take_append_drop]
theorem cutL_mem (l : List Nat) : ∀ s : List UInt8, s.length = l.sum → ∀ c ∈ cutL l s, c.length ∈ l := by
  induction l with
  | nil => intro s _ c hc; cases hc
  | cons x r ih =>
    intro s h c hc
    rw [List.sum_cons] at h
    rw [cutL] at hc
    rcases List.mem_cons.1 hc with rfl | hc
    · rw [List.length_take, Nat.min_eq_left (by omega)]; simp
    · exact List.mem_cons_of_mem _ (ih _ (by rw [List.length_drop]; omega) c hc)

/-- the leaves of a text -/
def chL (s : List UInt8) : List (List UInt8) := if s = [] then [] else cutL (szL s.length 16) s
theorem chL_flat (s : List UInt8) : (chL s).flatten = s := by
  unfold chL
  by_cases h : s = []
  · rw [if_pos h, h]; rfl
  · rw [if_neg h, cutL_flat]
    rw [szL_sum (List.length_pos_iff.2 h) (by omega)]
theorem chL_mem {s c : List UInt8} (hc : c ∈ chL s) : 1 ≤ c.length ∧ c.length ≤ 16 ∧ (2 ≤ (chL s).length → 8 ≤ c.length) := by
  unfold chL at *
  by_cases h : s = []
  · rw [if_pos h] at hc; cases hc
  · rw [if_neg h] at hc ⊢
    have hp := List.length_pos_iff.2 h
    have := cutL_mem _ s (by rw [szL_sum hp (by omega)]) c hc
    rw [cutL_len]
    exact sz16 hp this
theorem chL_len (s : List UInt8) : (chL s).length ≤ s.length := by
  unfold chL
  by_cases h : s = []
  · rw [if_pos h, h]; simp
  · rw [if_neg h, cutL_len, grp_len]
    have hp := List.length_pos_iff.2 h
    have := (grp_le s.length 16 (by omega)).2
    omega

set_option maxHeartbeats 1000000 in
set_option maxRecDepth 100000 in
theorem chunks_any (s : List UInt8) (w : World) (hs : s.length ≤ 65536) :
    Calls Tryz.prog 45 #[.string ⟨s.toArray⟩] w fun e w' => ∃ v', e = .returned v' ∧ Ow strE w' w.heap.size 9 v' (chL s) ∧ Below w.heap.size w w' := by
  by_cases h : s = []
  · subst h
    have hz : Calls Tryz.prog 62 #[.int .i64 0, .int .i64 16] w fun e w' => e = .returned (.slice none 0 0) ∧ Below w.heap.size w w' := by
      go_enter Tryz.func62, Tryz.ntmps62
      go_wp2
      go_ret
      exact ⟨rfl, bal (Below.refl _ _)⟩
    have HZ := Lib.hid hz; clear hz
    go_enter Tryz.func45, Tryz.ntmps45
    go_wp2_with (go_at_call 62; refine HZ.out.mono ?_; rintro e w' ⟨rfl, hb⟩)
    refine wp_loop_rounds 1 ?_
    rw [rounds_succ]
    go_wp2
    go_ret
    exact ⟨_, rfl, Ow.nil _ _ _ _, hb⟩
  · have hp := List.length_pos_iff.2 h
    have cS := Lib.hid (sizes_any s.length 16 w hp hs (by omega) (by omega))
    have HC := Lib.hid (show chL s = cutL (szL s.length 16) s from if_neg h)
    have HS := Lib.hid (szL_sum hp (show 0 < 16 by omega))
    have HG := Lib.hid (show (szL s.length 16).length ≤ 65536 from by rw [grp_len]; have := (grp_le s.length 16 (by omega)).2; omega)
    clear h hp
    generalize szL s.length 16 = Z at *
    go_enter Tryz.func45, Tryz.ntmps45
    go_wp2_with fail
    refine cS.out.mono ?_
    rintro e w1 ⟨v', rfl, ho, hb⟩
    obtain ⟨A, c, rfl⟩ := ho.form
    have HO := Lib.hid ho.sl; have HB := Lib.hid hb
    clear ho hb cS
    have hzl := HG.out
    go_wp2_with fail
    go_loopw [0, 3, 10] (fun t vo i wr => ∃ (k : Nat) (A5 : Option Addr) (c5 : Nat), k ≤ Z.length ∧ i = .int .i64 k ∧ t = .string ⟨(s.drop (Z.take k).sum).toArray⟩ ∧ vo = .slice A5 k c5 ∧ Hid (Ow strE wr w1.heap.size 9 (.slice A5 k c5) (cutL (Z.take k) s)) ∧ Hid (Below w1.heap.size w1 wr) ∧ w1.heap.size ≤ wr.heap.size) (fun _ _ i _ => Z.length - (intOf i).toNat)
    case atStart => exact ⟨0, none, 0, by omega, rfl, by simp, rfl, Lib.hid (Ow.nil _ _ _ _), Lib.hid (Below.refl _ _), Nat.le_refl _⟩
    case round =>
      obtain ⟨k, A5, c5, hk, rfl, rfl, rfl, hO, hB, hsz⟩ := hrel
      by_cases hlt : k < Z.length
      · have hki : (k : Int) < (Z.length : Int) := by omega
        obtain ⟨b, off, cap, hv, hbb, hcc⟩ := HO.out.int hlt
        obtain ⟨rfl, rfl⟩ : A = some ⟨b, off, none⟩ ∧ c = cap := by injection hv with e1 e2 e3; exact ⟨e1, e3⟩
        have c0 := hcc wr hB.out
        have htk : Z.take (k + 1) = Z.take k ++ [Z[k]] := List.take_succ_eq_append_getElem hlt
        have hsum : (Z.take k).sum + Z[k] ≤ Z.sum := by
          have e1 : Z.sum = (Z.take (k + 1)).sum + (Z.drop (k + 1)).sum := by rw [← List.sum_append, List.take_append_drop]
          rw [e1, htk, List.sum_append]; simp
        rw [HS.out] at hsum
        have EC := Lib.hid (show cutL (Z.take (k + 1)) s = cutL (Z.take k) s ++ [(s.drop (Z.take k).sum).take Z[k]] by rw [htk, cutL_snoc])
        have ED := Lib.hid (show s.drop (Z.take (k + 1)).sum = (s.drop (Z.take k).sum).drop Z[k] by rw [htk, List.sum_append, List.drop_drop]; simp)
        have hlen : (s.drop (Z.take k).sum).length = s.length - (Z.take k).sum := List.length_drop
        have hln : (cutL (Z.take k) s).length = k := by rw [cutL_len, List.length_take]; omega
        have HLN := Lib.hid hln
        clear hv hcc htk hln
        generalize Z[k] = z at *
        generalize (Z.take k).sum = q at *
        generalize s.drop q = t at *
        have hzt : z ≤ t.length := by omega
        have hx1 := ext_take t z
        have hx2 := ext_drop t z
        clear hlen hsum
        go_wp2_with (at_builtin; refine Hid.out ?_)
        refine Lib.hid ?_
        refine wpOw1 _ strOK rfl (.tmp 14) (.tmp 18) rfl w1.heap.size (by first | (simp; done) | (simp; omega)) _ (cutL (Z.take k) s) rfl (hO.out.alloc _) (t.take z) wr.heap.size 1 rfl (new_cells _ _ _) (by rw [HLN.out]; omega) ?_
        rw [HLN.out]
        intro A8 c8 w8 hown8 hg8
        have HO8 := Lib.hid hown8
        have HB8 := Lib.hid ((hB.out.alloc hsz _).grown hg8 (by first | (simp; done) | (simp; omega)) (fun g hg => (hO.out.lt g hg).1))
        have hz8 : w1.heap.size ≤ w8.heap.size := by have := hg8.size; simp at this; omega
        clear hown8 hg8 hO hB
        go_wp2_with fail
        go_roundw
        case rel => exact ⟨k + 1, A8, c8, by omega, by go_num, by rw [ED.out], rfl, Lib.hid (by rw [EC.out]; exact HO8.out), HB8, hz8⟩
        case measure => simp [intOf]; omega
      · have hkl : Z.take k = Z := List.take_of_length_le (by omega)
        have hO' := hO.out
        rw [hkl, ← HC.out] at hO'
        have HO' := Lib.hid hO'
        clear hO' hO
        go_wp2
        go_ret
        exact ⟨_, rfl, HO'.out.base HB.out.size, HB.out.trans (hB.out.mono HB.out.size)⟩

set_option maxRecDepth 100000 in
theorem cleaf_any (s : List UInt8) (w : World) (h1 : 1 ≤ s.length) (h2 : s.length ≤ 16) :
    Calls Tryz.prog 106 #[.string ⟨s.toArray⟩] w fun e w' => e = .returned (.bool true) ∧ w' = w := by
  have d1 : decide ((s.length : Int) ≥ 1) = true := decide_eq_true (by omega)
  have d2 : (1 : Int) ≤ s.length := by omega
  have d3 : (s.length : Int) ≤ 16 := by omega
  go_enter Tryz.func106, Tryz.ntmps106
  go_wp2
  go_ret
  exact ⟨rfl, rfl⟩

set_option maxHeartbeats 400000 in
set_option maxRecDepth 100000 in
theorem ccut_any (s : List UInt8) (at_ : Nat) (w : World) (h1 : 1 ≤ s.length) (h2 : s.length ≤ 16) (h3 : at_ ≤ s.length) :
    Calls Tryz.prog 88 #[.string ⟨s.toArray⟩, .int .i64 at_] w fun e w' => e = .returned (.tuple #[.string ⟨(s.take at_).toArray⟩, .string ⟨(s.drop at_).toArray⟩, .int .i64 0]) ∧ ∃ n, w' = w.drewN n := by
  have cL := Lib.hid (cleaf_any s w h1 h2)
  have hx1 := ext_take s at_
  have hx2 := ext_drop s at_
  have h4 : (at_ : Int) ≤ s.length := by omega
  have h5 : (0 : Int) ≤ at_ := by omega
  go_enter Tryz.func88, Tryz.ntmps88
  go_wp2_with (go_at_call 106; refine cL.out.mono ?_; rintro e w' ⟨rfl, rfl⟩)
  go_quiet (fail)
  go_wp2_with fail
  go_ret3
  exact ⟨rfl, _, rfl⟩

/-- what two leaves become -/
def joinL (a b : List UInt8) : List (List UInt8) :=
  if (a ++ b).length ≤ 16 then [a ++ b] else if 8 ≤ a.length ∧ 8 ≤ b.length then [a, b] else [(a ++ b).take (((a ++ b).length + 1) / 2), (a ++ b).drop (((a ++ b).length + 1) / 2)]
theorem joinL_flat (a b : List UInt8) : (joinL a b).flatten = a ++ b := by
  unfold joinL; split
  · simp
  · split <;> simp
theorem joinL_len (a b : List UInt8) : (joinL a b).length = 1 ∨ (joinL a b).length = 2 := by
  unfold joinL; split
  · simp
  · split <;> simp
theorem joinL_mem {a b c : List UInt8} (ha : 1 ≤ a.length ∧ a.length ≤ 16) (hb : 1 ≤ b.length ∧ b.length ≤ 16) (hc : c ∈ joinL a b) : 1 ≤ c.length ∧ c.length ≤ 16 ∧ (2 ≤ (joinL a b).length → 8 ≤ c.length) ∧ (8 ≤ (a ++ b).length → 8 ≤ c.length) := by
  unfold joinL at *
  have hl : (a ++ b).length = a.length + b.length := List.length_append
  split at hc
  · rename_i h
    rw [if_pos h]
    simp only [List.mem_singleton] at hc; subst hc
    simp only [List.length_singleton]
    omega
  · rename_i h
    rw [if_neg h]
    split at hc
    · rename_i h'
      simp only [List.mem_cons, List.not_mem_nil, or_false] at hc
      rcases hc with rfl | rfl <;> omega
    · rename_i h'
      simp only [List.mem_cons, List.not_mem_nil, or_false] at hc
      rcases hc with rfl | rfl
      · rw [List.length_take]; omega
      · rw [List.length_drop]; omega

theorem Sl.two {w : World} {b : Nat} {x y : List UInt8} (h : Bk w b #[.string ⟨x.toArray⟩, .string ⟨y.toArray⟩] 9) : Sl strE w (.slice (some ⟨b, 0, none⟩) 2 2) [x, y] := by
  refine ⟨_, 2, rfl, by simp, by simp [maxLen], fun _ => ⟨b, 0, rfl, h.lt, fun i j c u hc hu => ?_⟩⟩
  match i, hc with
  | 0, hc => cases hc; match j, hu with
    | 0, hu => cases hu; exact h.cell 0
    | j + 1, hu => simp [strE] at hu
  | 1, hc => cases hc; match j, hu with
    | 0, hu => cases hu; exact h.cell 1
    | j + 1, hu => simp [strE] at hu
  | i + 2, hc => simp at hc
theorem Sl.one1 {w : World} {b : Nat} {x : List UInt8} (h : Bk w b #[.string ⟨x.toArray⟩] 9) : Sl strE w (.slice (some ⟨b, 0, none⟩) 1 1) [x] := by
  refine ⟨_, 1, rfl, by simp, by simp [maxLen], fun _ => ⟨b, 0, rfl, h.lt, fun i j c u hc hu => ?_⟩⟩
  match i, hc with
  | 0, hc => cases hc; match j, hu with
    | 0, hu => cases hu; exact h.cell 0
    | j + 1, hu => simp [strE] at hu
  | i + 1, hc => simp at hc

theorem cat_str (a b : List UInt8) : (⟨a.toArray⟩ : ByteArray) ++ ⟨b.toArray⟩ = ⟨(a ++ b).toArray⟩ := by
  apply ByteArray.ext; simp

set_option maxHeartbeats 400000 in
set_option maxRecDepth 100000 in
theorem cjoin_any (a b : List UInt8) (w : World) (ha : 1 ≤ a.length ∧ a.length ≤ 16) (hb : 1 ≤ b.length ∧ b.length ≤ 16) :
    Calls Tryz.prog 121 #[.string ⟨a.toArray⟩, .string ⟨b.toArray⟩] w fun e w' => ∃ v', e = .returned (.tuple #[v', .int .i64 0]) ∧ Sl strE w' v' (joinL a b) ∧ Below w.heap.size w w' := by
  have c1 := Lib.hid (fun w => cleaf_any a w ha.1 ha.2)
  have c2 := Lib.hid (fun w => cleaf_any b w hb.1 hb.2)
  have hcat := cat_str a b
  have hl : (a ++ b).length = a.length + b.length := List.length_append
  have hA : (a.length : Int) ≤ 16 := by omega
  have hB : (b.length : Int) ≤ 16 := by omega
  unfold joinL
  by_cases h : (a ++ b).length ≤ 16
  · rw [if_pos h]
    generalize a ++ b = T at *
    have hq : (T.length : Int) ≤ 16 := by omega
    clear h ha hb hl
    go_enter Tryz.func121, Tryz.ntmps121
    go_wp2_with fail
    refine (c1.out _).mono ?_
    rintro e w' ⟨rfl, rfl⟩
    go_wp2_with fail
    refine (c2.out _).mono ?_
    rintro e w'' ⟨rfl, rfl⟩
    go_wp2_with fail
    go_ret2
    exact ⟨_, rfl, Sl.one1 (Bk.new _ _ _), bal (Below.refl _ _)⟩
  · rw [if_neg h]
    by_cases h8 : 8 ≤ a.length ∧ 8 ≤ b.length
    · rw [if_pos h8]
      obtain ⟨h8, h9⟩ := h8
      have hT : (16 : Int) < ((a ++ b).length : Int) := by omega
      have h8i : (8 : Int) ≤ a.length := by omega
      have h9i : (8 : Int) ≤ b.length := by omega
      generalize a ++ b = T at *
      clear h ha hb hl h8 h9
      go_enter Tryz.func121, Tryz.ntmps121
      go_wp2_with fail
      refine (c1.out _).mono ?_
      rintro e w' ⟨rfl, rfl⟩
      go_wp2_with fail
      refine (c2.out _).mono ?_
      rintro e w'' ⟨rfl, rfl⟩
      go_wp2_with fail
      go_ret2
      exact ⟨_, rfl, Sl.two (Bk.new _ _ _), bal (Below.refl _ _)⟩
    · rw [if_neg h8]
      have hT : (16 : Int) < ((a ++ b).length : Int) := by omega
      have hT2 : ((a ++ b).length : Int) ≤ 32 := by omega
      have hx1 := ext_take (a ++ b) (((a ++ b).length + 1) / 2)
      have hx2 := ext_drop (a ++ b) (((a ++ b).length + 1) / 2)
      have hd : (((((a ++ b).length + 1) / 2 : Nat)) : Int) = (((a ++ b).length : Int) + 1) / 2 := by omega
      have hd0 : 0 ≤ (((a ++ b).length : Int) + 1) / 2 := by omega
      have hd1 : (((a ++ b).length : Int) + 1) / 2 ≤ ((a ++ b).length : Int) := by omega
      have hdn : ((((a ++ b).length : Int) + 1) / 2).toNat = ((a ++ b).length + 1) / 2 := by omega
      have hor : (a.length : Int) < 8 ∨ ((8 : Int) ≤ a.length ∧ (b.length : Int) < 8) := by omega
      generalize ((a ++ b).length + 1) / 2 = q at *
      generalize a ++ b = T at *
      clear h ha hb hl h8
      rcases hor with h9 | ⟨h9, h10⟩
      all_goals
        go_enter Tryz.func121, Tryz.ntmps121
        go_wp2_with fail
        refine (c1.out _).mono ?_
        rintro e w' ⟨rfl, rfl⟩
        go_wp2_with fail
        refine (c2.out _).mono ?_
        rintro e w'' ⟨rfl, rfl⟩
        go_wp2_with fail
        go_region
        go_wp2_with fail
        go_ret2
        exact ⟨_, rfl, Sl.two (Bk.new _ _ _).drew, bdr (bal (Below.refl _ _))⟩

end Go.Proofs.YtclmjnobacepjaaGreat
