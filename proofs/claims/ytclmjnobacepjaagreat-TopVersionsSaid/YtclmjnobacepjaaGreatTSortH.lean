/- handle.Sort: a row that holds the first n slots' handles in any order becomes the row in order: by the library's contract. -/
import Derived.Test.YtclmjnobacepjaaGreatJ38
import Derived.Shelf.SlSortCmp.NoneTotal
import Derived.Lib.OwnBridge
import Derived.Lib.AppendIntMem
namespace Go.Proofs.YtclmjnobacepjaaGreat
open Go.RowKit Go.Sort Go.Shelf
def sortLay_ren : Go.Shelf.Ren := ⟨fun | 6 => 56 | 15 => 77 | 14 => 76 | 28 => 102 | 29 => 103 | 20 => 94 | 21 => 95 | 22 => 96 | 23 => 97 | 24 => 98 | 25 => 99 | 26 => 100 | 27 => 101 | 46 => 115 | 47 => 116 | 48 => 117 | 49 => 118 | 50 => 119 | 57 => 122 | n => n, fun | 22 => 43 | 24 => 35 | 25 => 144 | 3 => 3 | 39 => 145 | 0 => 0 | 53 => 192 | 55 => 28 | 4 => 4 | 46 => 186 | 45 => 185 | 50 => 120 | 5 => 5 | 9 => 9 | 66 => 206 | 70 => 210 | 76 => 213 | 77 => 197 | n => n, fun | n => n⟩
theorem sortLay : Go.Proofs.SlLaysF.n6 Tryz.prog sortLay_ren := {
  mixed := by kernel_rfl
  f6 := ⟨Tryz.f56.name, by decide, Tryz.func56.trans (congrArg some (by kernel_rfl))⟩
  f14 := ⟨Tryz.f76.name, by decide, Tryz.func76.trans (congrArg some (by kernel_rfl))⟩
  f15 := Tryz.func77.trans (congrArg some (by kernel_rfl))
  f20 := ⟨Tryz.f94.name, by decide, Tryz.func94.trans (congrArg some (by kernel_rfl))⟩
  f21 := ⟨Tryz.f95.name, by decide, Tryz.func95.trans (congrArg some (by kernel_rfl))⟩
  f22 := ⟨Tryz.f96.name, by decide, Tryz.func96.trans (congrArg some (by kernel_rfl))⟩
  f23 := ⟨Tryz.f97.name, by decide, Tryz.func97.trans (congrArg some (by kernel_rfl))⟩
  f24 := ⟨Tryz.f98.name, by decide, Tryz.func98.trans (congrArg some (by kernel_rfl))⟩
  f25 := ⟨Tryz.f99.name, by decide, Tryz.func99.trans (congrArg some (by kernel_rfl))⟩
  f26 := ⟨Tryz.f100.name, by decide, Tryz.func100.trans (congrArg some (by kernel_rfl))⟩
  f27 := ⟨Tryz.f101.name, by decide, Tryz.func101.trans (congrArg some (by kernel_rfl))⟩
  f28 := Tryz.func102.trans (congrArg some (by kernel_rfl))
  f29 := Tryz.func103.trans (congrArg some (by kernel_rfl))
  f46 := ⟨Tryz.f115.name, by decide, Tryz.func115.trans (congrArg some (by kernel_rfl))⟩
  f47 := Tryz.func116.trans (congrArg some (by kernel_rfl))
  f48 := Tryz.func117.trans (congrArg some (by kernel_rfl))
  f49 := ⟨Tryz.f118.name, by decide, Tryz.func118.trans (congrArg some (by kernel_rfl))⟩
  f50 := ⟨Tryz.f119.name, by decide, Tryz.func119.trans (congrArg some (by kernel_rfl))⟩
  f57 := ⟨Tryz.f122.name, by decide, Tryz.func122.trans (congrArg some (by kernel_rfl))⟩
  t0 := Tryz.underlying0
  a0 := Tryz.isAgg0
  z0 := Tryz.sizeOf0
  v0 := Tryz.zeroValue0
  t3 := Tryz.underlying3
  a3 := Tryz.isAgg3
  z3 := Tryz.sizeOf3
  v3 := Tryz.zeroValue3
  t4 := Tryz.underlying4
  a4 := Tryz.isAgg4
  z4 := Tryz.sizeOf4
  v4 := Tryz.zeroValue4
  t5 := Tryz.underlying5
  a5 := Tryz.isAgg5
  z5 := Tryz.sizeOf5
  v5 := Tryz.zeroValue5
  t9 := Tryz.underlying9
  a9 := Tryz.isAgg9
  z9 := Tryz.sizeOf9
  v9 := Tryz.zeroValue9
  t22 := Tryz.underlying43
  a22 := Tryz.isAgg43
  z22 := Tryz.sizeOf43
  v22 := Tryz.zeroValue43
  a24 := Tryz.isAgg35
  z24 := Tryz.sizeOf35
  t25 := Tryz.underlying144
  a25 := Tryz.isAgg144
  z25 := Tryz.sizeOf144
  v25 := Tryz.zeroValue144
  t39 := Tryz.underlying145
  a39 := Tryz.isAgg145
  z39 := Tryz.sizeOf145
  v39 := Tryz.zeroValue145
  t45 := Tryz.underlying185
  a45 := Tryz.isAgg185
  z45 := Tryz.sizeOf185
  v45 := Tryz.zeroValue185
  t46 := Tryz.underlying186
  a46 := Tryz.isAgg186
  z46 := Tryz.sizeOf186
  v46 := Tryz.zeroValue186
  t50 := Tryz.underlying120
  a50 := Tryz.isAgg120
  z50 := Tryz.sizeOf120
  v50 := Tryz.zeroValue120
  t53 := Tryz.underlying192
  a53 := Tryz.isAgg192
  z53 := Tryz.sizeOf192
  v53 := Tryz.zeroValue192
  t55 := Tryz.underlying28
  a55 := Tryz.isAgg28
  z55 := Tryz.sizeOf28
  v55 := Tryz.zeroValue28
  t66 := Tryz.underlying206
  a66 := Tryz.isAgg206
  z66 := Tryz.sizeOf206
  v66 := Tryz.zeroValue206
  t70 := Tryz.underlying210
  a70 := Tryz.isAgg210
  z70 := Tryz.sizeOf210
  v70 := Tryz.zeroValue210
  t76 := Tryz.underlying213
  a76 := Tryz.isAgg213
  z76 := Tryz.sizeOf213
  v76 := Tryz.zeroValue213
  t77 := Tryz.underlying197
  a77 := Tryz.isAgg197
  z77 := Tryz.sizeOf197
  v77 := Tryz.zeroValue197 }

def fz (i : Nat) : Fin 1000 := Fin.ofNat 1000 i
theorem fz_val {i : Nat} (h : i < 1000) : (fz i).1 = i := Nat.mod_eq_of_lt h
theorem ltH (x y : Fin 1000) : ltOf cfH x y = decide (x.1 < y.1) := by
  unfold ltOf cfH
  by_cases h1 : x.1 < y.1
  · simp [h1]
  · by_cases h2 : y.1 < x.1 <;> simp [h1, h2]
theorem swoH : SWO (ltOf cfH) := {
  irrefl := fun x => by rw [ltH]; simp
  trans := fun x y z h1 h2 => by rw [ltH] at *; simp only [decide_eq_true_eq] at *; omega
  ntrans := fun x y z h1 h2 => by rw [ltH] at *; simp only [decide_eq_false_iff_not] at *; omega }

/-- in order -/
theorem sort_range {L : List Nat} {n : Nat} (hp : L.Perm (List.range n)) (hn : n ≤ 1000) : ((L.map fz).toArray.toList.mergeSort fun x y => !(ltOf cfH) y x) = (List.range n).map fz := by
  refine List.Perm.eq_of_pairwise (le := fun x y => (!(ltOf cfH) y x) = true) ?_ ?_ ?_ ((List.mergeSort_perm _ _).trans (by simpa using hp.map fz))
  · intro a b _ _ h1 h2
    rw [ltH] at h1 h2
    simp only [Bool.not_eq_true', decide_eq_false_iff_not] at h1 h2
    exact Fin.ext (by omega)
  · refine List.pairwise_mergeSort (fun a b c h1 h2 => ?_) (fun a b => ?_) _
    · rw [ltH] at *
      simp only [Bool.not_eq_true', decide_eq_false_iff_not] at *
      omega
    · rw [ltH, ltH]
      simp only [Bool.or_eq_true, Bool.not_eq_true', decide_eq_false_iff_not]
      omega
  · rw [List.pairwise_map]
    refine List.Pairwise.imp_of_mem (fun {a b} ha hb h => ?_) List.pairwise_lt_range
    have ha := List.mem_range.1 ha
    have hb := List.mem_range.1 hb
    rw [ltH, fz_val (i := a) (by omega), fz_val (i := b) (by omega)]
    simp only [Bool.not_eq_true', decide_eq_false_iff_not]
    omega

theorem holdsH {w : World} {B g c : Nat} {l : List Nat} {e : TypeId} (h : Ow hndE w B e (.slice (some ⟨g, 0, none⟩) l.length c) (l.map hd)) (hl : ∀ x ∈ l, x < 1000) : Holds encH w g 0 (l.map fz).toArray := by
  intro j hj
  have hj2 : j < l.length := by simpa using hj
  have hj3 : j < (l.map hd).length := by rw [List.length_map]; exact hj2
  rw [Nat.zero_add]
  have h0 : w.ownsRow B e 1 (.slice (some ⟨g, 0, none⟩) l.length c) l.length (hndE.flat (l.map hd)) := by
    have := h
    unfold Ow at this
    rw [List.length_map] at this
    exact this
  refine ⟨?_, h0.frozenAt j⟩
  obtain ⟨b, off, cap, hv, -, hc⟩ := h.sl.hnd (k := j) hj3
  rw [List.length_map] at hv
  obtain ⟨rfl, rfl⟩ : g = b ∧ 0 = off := by injection hv with e1 e2 e3; injection e1 with e1; injection e1 with e1 e2; exact ⟨e1, e2⟩
  have := hc w (Below.refl _ _)
  rw [Nat.zero_add, List.getElem_map] at this
  rw [this, getElem!_pos _ j hj]
  unfold encH
  simp only [List.getElem_toArray, List.getElem_map]
  rw [fz_val (hl _ (List.getElem_mem hj2))]

theorem own_sortedH {w : World} {B g c m : Nat} {l ys : List Nat} {e : TypeId} {os : Array Obj} (h : Ow hndE w B e (.slice (some ⟨g, 0, none⟩) l.length c) (l.map hd)) (hy : ys.length = l.length) (hys : ∀ x ∈ ys, x < 1000) :
    Ow hndE (sortWorld encH w g 0 m (ys.map fz).toArray os) B e (.slice (some ⟨g, 0, none⟩) l.length c) (ys.map hd) := by
  have hlt := (h.lt g rfl).2
  rcases h.2 with ⟨e0, _⟩ | ⟨g', cap', cur, e0, hb, hg, hn, hm, hs, ht⟩
  · cases e0
  injection e0 with e1 e2 e3
  injection e1 with e1
  injection e1 with e1
  subst e1; subst e3
  have hn : l.length ≤ c := by rw [List.length_map] at hn; exact hn
  have hs : cur.size = c := by rw [hs]; exact Nat.mul_one _
  have hfs : ((ys.map fz).toArray).size = l.length := by simp [hy]
  have hfl : ∀ xs : List Nat, hndE.flat xs = xs.map (fun i : Nat => Value.int .u64 i) := fun xs => by
    induction xs with
    | nil => rfl
    | cons a r ih => rw [Enc.flat_cons, ih]; rfl
  refine ⟨by rw [hndE.flat_len], .inr ⟨g, c, putCells encH 0 (ys.map fz).toArray cur, by rw [List.length_map, hy], hb, ?_, by rw [List.length_map, hy]; exact hn, hm, by rw [show (putCells encH 0 (ys.map fz).toArray cur).size = cur.size by simp [putCells], hs]; exact (Nat.mul_one _).symm, ?_⟩⟩
  · unfold sortWorld
    rw [heap_grow_old _ _ (by simpa [putRow, mapBlock, Sort.ahead] using hlt)]
    simp [putRow, mapBlock, Sort.ahead, Array.getElem?_modify, hg, onCells]
  · rw [hfl]
    apply List.ext_getElem?
    intro j
    rw [List.getElem?_take, Array.getElem?_toList, List.length_map, hy]
    by_cases hj : j < l.length
    · have hjc : j < cur.size := by omega
      have hjy : j < ys.length := by omega
      have hjn : j < l.length * hndE.sz := by show j < l.length * 1; omega
      simp only [if_pos hjn, putCells, Array.getElem?_mapIdx, Array.getElem?_eq_getElem hjc, Option.map_some]
      rw [if_pos (by rw [hfs]; omega), Nat.sub_zero, getElem!_pos _ j (by rw [hfs]; exact hj), List.getElem?_map, List.getElem?_map, List.getElem?_eq_getElem hjy]
      unfold encH
      simp only [List.getElem_toArray, List.getElem_map, Option.map_some]
      rw [fz_val (hys _ (List.getElem_mem hjy))]
    · have hjn : ¬ j < l.length * hndE.sz := by show ¬ j < l.length * 1; omega
      rw [if_neg hjn, List.getElem?_eq_none (by rw [List.length_map, List.length_map]; omega)]

theorem below_sortedH (w : World) (B g m : Nat) (d : Array (Fin 1000)) (os : Array Obj) (hB : B ≤ w.heap.size) (hg : B ≤ g) : Below B w (sortWorld encH w g 0 m d os) := by
  unfold sortWorld
  have h1 : Below B w (putRow encH (Sort.ahead w m) g 0 d) := Lib.below_putRow (Below.refl B w) hg
  exact h1.trans (Lib.below_grow B _ (Nat.le_trans hB h1.size) 0 os)

theorem sortF_any (L : List Nat) (n B g c : Nat) (w : World) (h : Ow hndE w B 35 (.slice (some ⟨g, 0, none⟩) L.length c) (L.map hd)) (hB : B ≤ w.heap.size) (hp : L.Perm (List.range n)) (hn : n ≤ 1000) :
    Calls Tryz.prog 56 #[.slice (some ⟨g, 0, none⟩) L.length c, .func (.func 57) #[] #[]] w fun e w' => e = .returned (.tuple #[]) ∧ Ow hndE w' B 35 (.slice (some ⟨g, 0, none⟩) L.length c) ((List.range n).map hd) ∧ Below B w w' := by
  have hll : L.length = n := by rw [hp.length_eq, List.length_range]
  have hL : ∀ x ∈ L, x < 1000 := fun x hx => by have := List.mem_range.1 (hp.mem_iff.1 hx); omega
  have eg : ∀ args w, (callFunc 57 args).run Tryz.prog w = .ok (.enter 57 args) w := enters_of Tryz.func57 (by kernel_rfl) rfl
  have hg := h.lt g rfl
  have hsz : ((L.map fz).toArray).size = L.length := by simp
  have hcmp : CmpLays1 Tryz.prog 57 #[] encH cfH g 0 ((L.map fz).toArray).size w := fun m os dk _ x y => (sortcl_any x y _).mono fun e w' q => ⟨q.1, 0, #[], by rw [q.2, grow_empty]; rfl⟩
  have := Any.slices_SortFunc_total sortLay encH (fun _ => rfl) cfH swoH 57 #[] g 0 c (L.map fz).toArray w eg hcmp (holdsH h hL) hg.2 (by rw [hsz]; omega) (fun x y h1 h2 => by
    rw [ltH] at h1 h2
    simp only [decide_eq_false_iff_not] at h1 h2
    exact Fin.ext (by omega))
  rw [hsz] at this
  refine Calls.mono this ?_
  rintro e w' ⟨rfl, m, os, rfl⟩
  rw [sort_range hp hn]
  exact ⟨rfl, own_sortedH h (by rw [List.length_range, hll]) (fun x hx => by have := List.mem_range.1 hx; omega), below_sortedH _ _ _ _ _ _ hB hg.1⟩

set_option maxHeartbeats 2000000 in
set_option maxRecDepth 100000 in
theorem hsort_any (A : Option Addr) (c : Nat) (L : List Nat) (n : Nat) (w : World) (h : Sl hndE w (.slice A L.length c) (L.map hd)) (hp : L.Perm (List.range n)) (hn : n ≤ 1000) (hz : L = [] → A = none ∧ c = 0) :
    Calls Tryz.prog 40 #[.slice A L.length c] w fun e w' => ∃ A' c', e = .returned (.slice A' n c') ∧ Ow hndE w' w.heap.size 35 (.slice A' n c') ((List.range n).map hd) ∧ Below w.heap.size w w' := by
  have hll : L.length = n := by rw [hp.length_eq, List.length_range]
  have C1 := cloneH_any A c (L.map hd) w (by rw [List.length_map]; exact h) (by rw [List.length_map]; omega) (fun q => hz (by simpa using q))
  rw [List.length_map] at C1
  have C1 := Lib.hid C1
  have C3 := Lib.hid (fun A c W (p : Sl hndE W (.slice A (List.range n).length c) ((List.range n).map hd)) => compactH_any A c (List.range n) W p (by rw [List.length_range]; exact hn) (List.nodup_range))
  rw [List.length_range] at C3
  by_cases e0 : L = []
  · have hn0 : n = 0 := by rw [← hll, e0]; rfl
    subst hn0
    subst e0
    have C2 := Lib.hid (fun W => AnyF.slices_SortFunc_none (P := Tryz.prog) (ρ := sortLay_ren) { sortLay with } none 0 (.func (.func 57) #[] #[]) W)
    clear hp hn hll hz h
    go_enter Tryz.func40, Tryz.ntmps40
    go_wp2_with fail
    refine C1.out.mono ?_
    rintro e w1 ⟨A1, c1, rfl, ho, hz, hb⟩
    obtain ⟨rfl, rfl⟩ := hz rfl
    have HB := Lib.hid hb
    clear ho hz hb C1
    go_wp2_with fail
    refine (C2.out _).mono ?_
    rintro e w2 ⟨rfl, rfl⟩
    go_wp2_with fail
    refine (C3.out none 0 _ (Ow.nil hndE _ 0 35).sl).mono ?_
    rintro e w3 ⟨rfl, hb3⟩
    have HB3 := Lib.hid hb3
    clear hb3
    go_wp2_with fail
    go_ret
    exact ⟨none, 0, rfl, Ow.nil _ _ _ _, bcall HB.out HB3.out⟩
  · have C2 := Lib.hid (fun B g c W p q => sortF_any L n B g c W p q hp hn)
    have HE := Lib.hid (show n ≠ 0 by rw [← hll]; intro q; exact e0 (List.eq_nil_of_length_eq_zero q))
    rw [hll] at C1 C2 ⊢
    clear hp hn hz h e0 hll
    go_enter Tryz.func40, Tryz.ntmps40
    go_wp2_with fail
    refine C1.out.mono ?_
    rintro e w1 ⟨A1, c1, rfl, ho, -, hb⟩
    obtain ⟨g, rfl⟩ : ∃ g, A1 = some ⟨g, 0, none⟩ := by
      rcases ho.2 with ⟨q, -⟩ | ⟨g', cap', cur, e0, -⟩
      · injection q with e1 e2 e3
        exact absurd e2 HE.out
      · injection e0 with e1 e2 e3
        exact ⟨g', e1⟩
    have HO := Lib.hid ho
    have HB := Lib.hid hb
    clear ho hb C1
    go_wp2_with fail
    refine (C2.out w.heap.size g c1 w1 HO.out HB.out.size).mono ?_
    rintro e w2 ⟨rfl, ho2, hb2⟩
    have HO2 := Lib.hid ho2
    have HB2 := Lib.hid (HB.out.trans hb2)
    clear ho2 hb2 C2
    go_wp2_with fail
    refine (C3.out _ _ _ HO2.out.sl).mono ?_
    rintro e w3 ⟨rfl, hb3⟩
    have HB3 := Lib.hid hb3
    clear hb3
    go_wp2_with fail
    go_ret
    exact ⟨_, _, rfl, HO2.out.ext HB3.out (Nat.le_refl _), bcall HB2.out HB3.out⟩

end Go.Proofs.YtclmjnobacepjaaGreat
