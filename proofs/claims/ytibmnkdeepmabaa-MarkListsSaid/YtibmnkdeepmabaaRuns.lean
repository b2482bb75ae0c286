/- shift.look.runs: it hands over the runs of the bytes that a delta keeps, in order. Condition: valid pieces, at most 100000, none longer than 2^20. -/
import Derived.Test.YtibmnkdeepmabaaIter
import Derived.Test.YtibmnkdeepmabaaRunsP
namespace Go.Proofs.Ytibmnkdeepmabaa
open Go.RowKit Go.Shelf
attribute [local go_sem] Oper.semAt_some

/-- valid pieces of moderate size -/
def Mod (l : List Pc) : Prop := Val l ∧ FormPre l
theorem Mod.bd {l : List Pc} (h : Mod l) (k : Nat) : 0 ≤ inL (l.take k) ∧ inL (l.take k) ≤ 1000000000000 ∧ 0 ≤ outL (l.take k) ∧ outL (l.take k) ≤ 1000000000000 := by
  have key : ∀ l : List Pc, (∀ p ∈ l, p.valid = true ∧ 0 ≤ p.n ∧ p.n ≤ 1048576 ∧ p.t.length ≤ 1048576) → 0 ≤ inL l ∧ inL l ≤ (l.length * 1048576 : Nat) ∧ 0 ≤ outL l ∧ outL l ≤ (l.length * 1048576 : Nat) := by
    intro l
    induction l with
    | nil => intro _; simp [inL, outL]
    | cons p l ih =>
      intro hh
      obtain ⟨v1, v2, v3, v4⟩ := hh p (by simp)
      obtain ⟨i1, i2, i3, i4⟩ := ih (fun q hq => hh q (by simp [hq]))
      have h5 := Val.out v1
      have h6 : p.out ≤ 1048576 := by
        rcases Pc.valid_cases v1 with ⟨x, y, z⟩ | ⟨x, y, z⟩ | ⟨x, y, z⟩ <;> simp [Pc.out, x] <;> omega
      simp only [inL, outL, List.length_cons, Nat.succ_mul]
      omega
  have h1 := key (l.take k) (fun p hp => ⟨h.1 p (List.mem_of_mem_take hp), h.2.2 p (List.mem_of_mem_take hp)⟩)
  have h2 : (l.take k).length ≤ 100000 := Nat.le_trans (List.length_take_le' k l) h.2.1
  omega

set_option maxRecDepth 100000 in
set_option maxHeartbeats 2000000 in
theorem runs_iter (v : Value) (l : List Pc) (t : Bool) (w0 w : World) (h : Sl pcE w0 v l) (hl : Mod l) (hb0 : Below w0.heap.size w0 w) :
    MIter Try.prog 89 #[.agg #[v, .bool t]] (fun r : Rn => #[r.v]) w0.heap.size (runsT t l) w := by
  intro n L J Jx W hW hJ hJx hJb hY hstart
  have HY := Lib.hid hY; have HJ := Lib.hid hJ; have HJx := Lib.hid hJx; have HJb := Lib.hid hJb
  clear hY hJ hJx hJb
  obtain ⟨A, cap, rfl, h2, h3, -⟩ := id h
  unfold maxLen at h3
  refine callsIn_of_wp Try.func89 rfl trivial ?_ rfl
  simp only [Try.ntmps89, List.size_toArray, List.length_cons, List.length_nil, Nat.reduceAdd, Nat.reduceSub, Array.replicate_succ, Array.replicate_zero, List.push_toArray, List.append_toArray, List.nil_append, List.cons_append]
  gi_wp2_with fail
  gi_loopw [4, 5, 12] (fun a o i wr => ∃ k : Nat, k ≤ l.length ∧ i = .int .i64 k ∧ a = .int .i64 (inL (l.take k)) ∧ o = .int .i64 (outL (l.take k)) ∧ Hid (J (runsT t (l.take k)).length wr) ∧ Hid (wr.heap[W.heap.size]? = some (.cells #[.slice A l.length cap, .bool t] 84 (0, 0)))) (fun _ _ i _ => l.length - (intOf i).toNat)
  case atStart => exact ⟨0, by omega, rfl, rfl, rfl, Lib.hid (by have := HJ.out 0 W _ hstart ((Below.refl _ W).alloc (Nat.le_refl _) (.cells #[.slice A l.length cap, .bool t] 84)); cases t <;> exact this), Lib.hid (heap_alloc_new W _)⟩
  clear hstart
  case round =>
    obtain ⟨k, hk, rfl, rfl, rfl, hJk, hbox⟩ := hrel
    obtain ⟨b1, b2, b3, b4⟩ := hl.bd k
    obtain ⟨q1, q2⟩ := HJb.out _ _ hJk.out
    by_cases hlt : k < l.length
    · obtain ⟨b, off, cap', hv, hb, hcells⟩ := h.pcB hlt
      obtain ⟨rfl, rfl⟩ : A = some ⟨b, off, none⟩ ∧ cap = cap' := by injection hv with e1 e2 e3; exact ⟨e1, e3⟩
      obtain ⟨c0, c1, c2⟩ := hcells _ (hb0.trans q1)
      have hbw : b < wr.heap.size := Nat.lt_of_lt_of_le hb (Nat.le_trans hb0.size q1.size)
      have hval := hl.1 l[k] (List.getElem_mem hlt)
      obtain ⟨d1, d2, d3⟩ := hl.2.2 l[k] (List.getElem_mem hlt)
      have htk : l.take (k + 1) = l.take k ++ [l[k]] := List.take_succ_eq_append_getElem hlt
      have hsn := runsT_snoc t (l.take k) l[k] (fun p hp => hl.1 p (List.mem_of_mem_take hp)) hval
      obtain ⟨s1, s2⟩ := io_snoc (l.take k) l[k]
      rw [← htk] at hsn s1 s2
      obtain ⟨R, hR⟩ := runsT_append t (l.take (k + 1)) (l.drop (k + 1)) (fun p hp => hl.1 p (List.mem_of_mem_take hp))
      rw [List.take_append_drop] at hR
      clear hv hcells htk
      generalize l[k] = p at *
      generalize inL (l.take k) = ia at *
      generalize outL (l.take k) = oa at *
      have Hsn := Lib.hid hsn; have S1 := Lib.hid s1; have S2 := Lib.hid s2; have HR := Lib.hid hR; have Hval := Lib.hid hval
      clear hsn s1 s2 hR hval
      by_cases h1 : p.k = 1
      · have e1 : (p.k == 2) = false := by simp [h1]
        have e2 : (p.k == 3) = false := by simp [h1]
        have Hk := Lib.hid h1
        clear h1
        have bx : wr.cell? ⟨W.heap.size, 1, none⟩ = some (.bool t) := by rw [Lib.cell_of_heap hbox.out]; rfl
        have bl := heap_lt hbox.out
        cases t
        · have hget : (runsT false l)[(runsT false (l.take k)).length]? = some (⟨ia, oa, p.n⟩ : Rn) := by
            have e := Hsn.out
            rw [if_pos Hk.out] at e
            rw [HR.out, e, List.append_assoc, List.getElem?_append_right (Nat.le_refl _), Nat.sub_self]
            rfl
          have hJ2 := HJ.out _ _ _ hJk.out (((Below.refl W.heap.size wr).alloc q2 (.cells #[.int .u8 p.k, .int .i64 p.n, .string ⟨p.t.toArray⟩] 53)).alloc (by simp; omega) (.cells #[.int .i64 ia, .int .i64 oa, .int .i64 p.n] 128))
          obtain ⟨fn, tmps, assign, body, hy, hR⟩ := HY.out _ _ _ hget hJ2
          dsimp only [Rn.v] at hy
          have HRd := Lib.hid hR
          have hf0 : ((wr.alloc (.cells #[.int .u8 p.k, .int .i64 p.n, .string ⟨p.t.toArray⟩] 53)).alloc (.cells #[.int .i64 ia, .int .i64 oa, .int .i64 p.n] 128)).heap[wr.heap.size]? = some (.cells #[.int .u8 p.k, .int .i64 p.n, .string ⟨p.t.toArray⟩] 53 (0, 0)) := (Below.heap_alloc _ _ _ (by simp)).trans (heap_alloc_new wr _)
          have hf1 : ((wr.alloc (.cells #[.int .u8 p.k, .int .i64 p.n, .string ⟨p.t.toArray⟩] 53)).alloc (.cells #[.int .i64 ia, .int .i64 oa, .int .i64 p.n] 128)).heap[W.heap.size]? = _ := (Below.heap_alloc _ _ _ (by simp; omega)).trans ((Below.heap_alloc _ _ _ bl).trans hbox.out)
          have Hf0 := Lib.hid hf0; have Hf1 := Lib.hid hf1
          clear hget hJ2 hR hf0 hf1
          gi_wp2_with fail
          refine ⟨fun h => by simp [Fence.wide] at h, HRd.out.mono ?_⟩
          rintro e B (⟨rfl, hJ', hf⟩ | ⟨rfl, hJx'⟩)
          · have g0 := (hf.block wr.heap.size (by simp; omega) (by unfold betw; omega)).trans Hf0.out
            have g1 := (hf.block W.heap.size (by simp; omega) (by unfold betw; omega)).trans Hf1.out
            have k1 : B.cell? ⟨wr.heap.size, 1, none⟩ = some (.int .i64 p.n) := by rw [Lib.cell_of_heap g0]; rfl
            have gl := heap_lt g0
            have G1 := Lib.hid g1; have HJ' := Lib.hid hJ'
            clear g0 g1 hJ' hf hy
            gi_wp2
            go_roundw
            case rel =>
              refine ⟨k + 1, by omega, by go_num, by rw [S1.out], by rw [S2.out]; simp [Pc.out, Hk.out], Lib.hid ?_, G1⟩
              rw [Hsn.out, if_pos Hk.out, List.length_append]
              exact HJ'.out
            case measure => simp [intOf]; omega
          · have HJx' := Lib.hid hJx'
            clear hJx' hy
            gi_wp2
            refine bodyPost_ret (results_none rfl _ _ _) rfl ?_
            exact ⟨⟨_, rfl⟩, .inr HJx'.out⟩
        · have hget : (runsT true l)[(runsT true (l.take k)).length]? = some (⟨oa, ia, p.n⟩ : Rn) := by
            have e := Hsn.out
            rw [if_pos Hk.out] at e
            rw [HR.out, e, List.append_assoc, List.getElem?_append_right (Nat.le_refl _), Nat.sub_self]
            rfl
          have hJ2 := HJ.out _ _ _ hJk.out (((Below.refl W.heap.size wr).alloc q2 (.cells #[.int .u8 p.k, .int .i64 p.n, .string ⟨p.t.toArray⟩] 53)).alloc (by simp; omega) (.cells #[.int .i64 oa, .int .i64 ia, .int .i64 p.n] 128))
          obtain ⟨fn, tmps, assign, body, hy, hR⟩ := HY.out _ _ _ hget hJ2
          dsimp only [Rn.v] at hy
          have HRd := Lib.hid hR
          have hf0 : ((wr.alloc (.cells #[.int .u8 p.k, .int .i64 p.n, .string ⟨p.t.toArray⟩] 53)).alloc (.cells #[.int .i64 oa, .int .i64 ia, .int .i64 p.n] 128)).heap[wr.heap.size]? = some (.cells #[.int .u8 p.k, .int .i64 p.n, .string ⟨p.t.toArray⟩] 53 (0, 0)) := (Below.heap_alloc _ _ _ (by simp)).trans (heap_alloc_new wr _)
          have hf1 : ((wr.alloc (.cells #[.int .u8 p.k, .int .i64 p.n, .string ⟨p.t.toArray⟩] 53)).alloc (.cells #[.int .i64 oa, .int .i64 ia, .int .i64 p.n] 128)).heap[W.heap.size]? = _ := (Below.heap_alloc _ _ _ (by simp; omega)).trans ((Below.heap_alloc _ _ _ bl).trans hbox.out)
          have Hf0 := Lib.hid hf0; have Hf1 := Lib.hid hf1
          clear hget hJ2 hR hf0 hf1
          gi_wp2_with fail
          refine ⟨fun h => by simp [Fence.wide] at h, HRd.out.mono ?_⟩
          rintro e B (⟨rfl, hJ', hf⟩ | ⟨rfl, hJx'⟩)
          · have g0 := (hf.block wr.heap.size (by simp; omega) (by unfold betw; omega)).trans Hf0.out
            have g1 := (hf.block W.heap.size (by simp; omega) (by unfold betw; omega)).trans Hf1.out
            have k1 : B.cell? ⟨wr.heap.size, 1, none⟩ = some (.int .i64 p.n) := by rw [Lib.cell_of_heap g0]; rfl
            have gl := heap_lt g0
            have G1 := Lib.hid g1; have HJ' := Lib.hid hJ'
            clear g0 g1 hJ' hf hy
            gi_wp2
            go_roundw
            case rel =>
              refine ⟨k + 1, by omega, by go_num, by rw [S1.out], by rw [S2.out]; simp [Pc.out, Hk.out], Lib.hid ?_, G1⟩
              rw [Hsn.out, if_pos Hk.out, List.length_append]
              exact HJ'.out
            case measure => simp [intOf]; omega
          · have HJx' := Lib.hid hJx'
            clear hJx' hy
            gi_wp2
            refine bodyPost_ret (results_none rfl _ _ _) rfl ?_
            exact ⟨⟨_, rfl⟩, .inr HJx'.out⟩
      · by_cases h3' : p.k = 3
        · have e1 : (p.k == 2) = false := by simp [h3']
          have e2 : (p.k == 3) = true := by simp [h3']
          have Hk := Lib.hid h3'
          clear h1 h3'
          gi_wp2_with fail
          go_roundw
          case rel =>
            refine ⟨k + 1, by omega, by go_num, by rw [S1.out], by rw [S2.out]; simp [Pc.out, Hk.out], Lib.hid ?_, Lib.hid ?_⟩
            · rw [Hsn.out, if_neg (by rw [Hk.out]; decide), List.append_nil]
              exact HJ.out _ _ _ hJk.out ((Below.refl _ _).alloc q2 _)
            · exact (Below.heap_alloc _ _ _ (heap_lt hbox.out)).trans hbox.out
          case measure => simp [intOf]; omega
        · have h2' : p.k = 2 := by
            rcases Pc.valid_cases Hval.out with ⟨x, y, z⟩ | ⟨x, y, z⟩ | ⟨x, y, z⟩
            · exact absurd x h1
            · exact absurd x h3'
            · exact x
          have e1 : (p.k == 2) = true := by simp [h2']
          have Hk := Lib.hid h2'
          clear h1 h3' h2'
          gi_wp2_with fail
          go_roundw
          case rel =>
            have hn : p.n = 0 := by
              have hk2 := Hk.out
              rcases Pc.valid_cases Hval.out with ⟨x, y, z⟩ | ⟨x, y, z⟩ | ⟨x, y, z⟩
              · omega
              · omega
              · exact y
            refine ⟨k + 1, by omega, by go_num, by rw [S1.out, hn, Int.add_zero], by rw [S2.out]; simp [Pc.out, Hk.out], Lib.hid ?_, Lib.hid ?_⟩
            · rw [Hsn.out, if_neg (by rw [Hk.out]; decide), List.append_nil]
              exact HJ.out _ _ _ hJk.out ((Below.refl _ _).alloc q2 _)
            · exact (Below.heap_alloc _ _ _ (heap_lt hbox.out)).trans hbox.out
          case measure => simp [intOf]; omega
    · have hkl : l.take k = l := List.take_of_length_le (by omega)
      have hJ' := hJk.out
      rw [hkl] at hJ'
      have HJ' := Lib.hid hJ'
      clear hkl hJ'
      gi_wp2
      go_end0
      exact ⟨⟨_, rfl⟩, .inl HJ'.out⟩

end Go.Proofs.Ytibmnkdeepmabaa
