/- transform.joined: the normal form of pieces, of which there may be too many. Condition: valid pieces of moderate size, at most 8192. -/
import Derived.Test.YtdlbjfgpfjcpaaaJoined
import Derived.Deep.OwnRows
namespace Go.Proofs.Ytdlbjfgpfjcpaaa
open Go.RowKit

theorem Sl.one {w : World} {b off cap : Nat} {l : List Pc} (h : Sl pcE w (.slice (some ⟨b, off, none⟩) l.length cap) l) {k : Nat} (hk : k < l.length) : Sl pcE w (.slice (some ⟨b, off + k * 3, none⟩) 1 (cap - k)) [l[k]] := by
  obtain ⟨A, cap', e, h2, h3, h4⟩ := h
  injection e with e1 e2 e3
  subst e1 e3
  obtain ⟨b', off', hA, hb, hc⟩ := h4 (by omega)
  injection hA with hA
  injection hA with e1 e2
  subst e1 e2
  refine ⟨_, cap - k, rfl, by simp only [List.length_singleton]; omega, by omega, fun _ => ⟨b, off + k * 3, rfl, hb, fun i j x u hx hu => ?_⟩⟩
  have hi : i = 0 := by
    have := (List.getElem?_eq_some_iff.1 hx).1
    simpa using this
  subst hi
  obtain rfl : l[k] = x := by simpa using hx
  have := hc k j _ u (List.getElem?_eq_getElem hk) hu
  rw [← this]
  congr 2
  show off + k * 3 + (0 * 3 + j) = off + (k * 3 + j)
  omega
/-- row k of the rows of one piece each -/
def cutV (b off cap k i : Nat) : Value := if i < k then .slice (some ⟨b, off + i * 3, none⟩) 1 (cap - i) else .slice none 0 0
theorem cutV_set (b off cap k : Nat) : (fun j => if j = k then Value.slice (some ⟨b, off + k * 3, none⟩) 1 (cap - k) else cutV b off cap k j) = fun j => cutV b off cap (k + 1) j := by
  funext j
  unfold cutV
  by_cases e : j = k
  · subst e; rw [if_pos rfl, if_pos (by omega)]
  · rw [if_neg e]
    by_cases h : j < k
    · rw [if_pos h, if_pos (by omega)]
    · rw [if_neg h, if_neg (by omega)]
theorem cutV_sll {w : World} {b off cap L : Nat} {l : List Pc} (h : Sl pcE w (.slice (some ⟨b, off, none⟩) l.length cap) l) (hr : w.rowIs L 22 l.length (cutV b off cap l.length)) :
    Sll w (.slice (some ⟨L, 0, none⟩) l.length l.length) (l.map fun p => [p]) := by
  refine ⟨(List.range l.length).map fun i => (⟨some ⟨b, off + i * 3, none⟩, 1, cap - i⟩ : SV), ?_, by simp, fun i x m hx hm => ?_⟩
  · have hn : ((List.range l.length).map fun i => (⟨some ⟨b, off + i * 3, none⟩, 1, cap - i⟩ : SV)).length = l.length := by simp
    refine ⟨_, l.length, by rw [hn], by rw [hn]; exact Nat.le_refl _, ?_, fun _ => ⟨L, 0, rfl, hr.lt, fun i j x u hx hu => ?_⟩⟩
    · exact Sl.len_le h
    · rw [List.getElem?_map] at hx
      obtain ⟨i', hi', rfl⟩ := Option.map_eq_some_iff.1 hx
      obtain ⟨hi, rfl⟩ := List.getElem?_eq_some_iff.1 hi'
      simp only [List.length_range] at hi
      simp only [List.getElem_range] at hu
      have hj : j = 0 := by
        have := (List.getElem?_eq_some_iff.1 hu).1
        simpa [svE] using this
      subst hj
      have hu' : some (Value.slice (some ⟨b, off + i * 3, none⟩) 1 (cap - i)) = some u := hu
      have := hr.cell hi
      rw [cutV, if_pos hi] at this
      rw [← hu', ← this]
      congr 2
      show 0 + (i * 1 + 0) = i
      omega
  · rw [List.getElem?_map] at hx hm
    obtain ⟨i', hi', rfl⟩ := Option.map_eq_some_iff.1 hx
    obtain ⟨p, hp, rfl⟩ := Option.map_eq_some_iff.1 hm
    obtain ⟨hi, rfl⟩ := List.getElem?_eq_some_iff.1 hi'
    simp only [List.length_range] at hi
    obtain ⟨hi2, rfl⟩ := List.getElem?_eq_some_iff.1 hp
    simp only [List.getElem_range]
    exact h.one hi

set_option maxHeartbeats 4000000 in
set_option maxRecDepth 100000 in
theorem joined7_any (v : Value) (l : List Pc) (w : World) (h : Sl pcE w v l) (hv : SmP l) (hl : l.length ≤ 8192) :
    Calls Try.prog 87 #[v] w fun e w' => ∃ v', e = .returned (.tuple #[v', .int .i64 (joinE (l.map fun p => [p]))]) ∧ w'.ownsRow w.heap.size 31 3 v' (joinS (l.map fun p => [p])).length (pcE.flat (joinS (l.map fun p => [p]))) ∧ Below w.heap.size w w' := by
  obtain ⟨i1, hj, hy0, hy1, hy2⟩ := info_parts infoSlice
  have cJ := Lib.hid fun x W (hS : Sll W x (l.map fun p => [p])) => join_any x (l.map fun p => [p]) W hS (fun m hm => by
    obtain ⟨p, hp, rfl⟩ := List.mem_map.1 hm
    exact one_err (hv p hp)) (by rw [singles]; omega)
  obtain ⟨A, cap, rfl, h2, h3, -⟩ := id h
  have hmk := run_make_row (P := Try.prog) 32 22 i1 (.slice none 0 0) Try.underlying32 hj hy0 hy1 rfl .i64 .i64 l.length (by rw [hy2]; omega) (by omega) w
  have HR := Lib.hid (World.rowIs_made w (.slice none 0 0) l.length 22)
  have HG := Lib.hid (show Below w.heap.size w (w.alloc (.cells (madeCells #[.slice none 0 0] l.length) 22)) from bal (Below.refl _ _))
  have H := Lib.hid h; have HV := Lib.hid hv
  clear h hv
  generalize w.alloc (.cells (madeCells #[.slice none 0 0] l.length) 22) = W1 at *
  unfold maxLen at h3
  have L1 := HG.out.size
  by_cases hl0 : l = []
  · subst hl0
    have HS := Lib.hid (show Sll W1 (.slice (some ⟨w.heap.size, 0, none⟩) 0 0) ([].map fun p : Pc => [p]) from ⟨[], ⟨_, 0, rfl, by simp, by simp [maxLen], fun hh => by simp at hh⟩, rfl, fun i x m hx hm => by cases hx⟩)
    have hmk0 : (Instr.makeSlice 32 (.int .i64 0) (.int .i64 0)).run Try.prog w = .ok (.slice (some ⟨w.heap.size, 0, none⟩) 0 0) W1 := hmk
    clear hmk
    go_enter Try.func87, Try.ntmps87
    go_wp2_with fail
    go_loopw [11] (fun i wr => i = .int .i64 0 ∧ wr = W1) (fun _ _ => 0)
    case atStart => exact ⟨rfl, rfl⟩
    case round =>
      obtain ⟨rfl, rfl⟩ := hrel
      go_wp2_with fail
      refine (cJ.out _ _ HS.out).mono ?_
      rintro e w2 ⟨v2, rfl, ho2, hb2⟩
      have HO2 := Lib.hid (own_base (own_zero ho2) (fun g hg => Nat.le_trans L1 (ho2.lt g hg).1))
      have HB2 := Lib.hid (HG.out.trans (hb2.mono L1))
      clear ho2 hb2
      go_wp2
      go_ret2
      exact ⟨v2, rfl, HO2.out, HB2.out⟩
  have hpos : 0 < l.length := List.length_pos_iff.2 hl0
  obtain ⟨b, off, cap0, hv0, hb0, -⟩ := H.out.pcB hpos
  obtain ⟨rfl, rfl⟩ : A = some ⟨b, off, none⟩ ∧ cap = cap0 := by injection hv0 with e1 e2 e3; exact ⟨e1, e3⟩
  clear hv0
  have HP := Lib.hid hpos; have HL0 := Lib.hid hl0
  clear hpos hl0
  go_enter Try.func87, Try.ntmps87
  go_wp2_with fail
  go_loopw [11] (fun i wr => ∃ k : Nat, k ≤ l.length ∧ i = .int .i64 k ∧ Hid (wr.rowIs w.heap.size 22 l.length (cutV b off cap k)) ∧ Hid (Below w.heap.size w wr)) (fun i _ => l.length - (intOf i).toNat)
  case atStart => exact ⟨0, by omega, rfl, Lib.hid (HR.out.congr fun i _ => by simp [cutV]), HG⟩
  case round =>
    obtain ⟨k, hk, rfl, hO, hB⟩ := hrel
    have hsz := hB.out.size
    by_cases hlt : k < l.length
    · obtain ⟨b', off', cap', hv, hb, hcells⟩ := H.out.pcB hlt
      obtain ⟨rfl, rfl, rfl⟩ : b = b' ∧ off = off' ∧ cap = cap' := by injection hv with e1 e2 e3; injection e1 with e1; injection e1 with e1 e4; exact ⟨e1, e4, e3⟩
      obtain ⟨c0, c1, c2⟩ := hcells _ hB.out
      obtain ⟨-, s1, s2⟩ := HV.out l[k] (List.getElem_mem hlt)
      have g1 : decide (1048576 < (l[k].t.length : Int)) = false := decide_eq_false (by omega)
      have g2 : decide (1048576 < l[k].n) = false := decide_eq_false (by omega)
      have r0 := hO.out.cell hlt
      have r1 := hO.out.frozen k
      have r2 := hO.out.lt
      have hbw : b < wr.heap.size := Nat.lt_of_lt_of_le hb hsz
      have hR' := hO.out.set k (.slice (some ⟨b, off + k * 3, none⟩) 1 (cap - k))
      rw [cutV_set] at hR'
      have HR' := Lib.hid hR'
      have HB' := Lib.hid (hB.out.setCell (p := ⟨w.heap.size, k, none⟩) (Nat.le_refl _) (.slice (some ⟨b, off + k * 3, none⟩) 1 (cap - k)))
      clear hv hcells hR' s1 s2 HR HG
      generalize l[k] = p at *
      obtain ⟨pk, pn, pt⟩ := p
      dsimp only at c0 c1 c2 g1 g2
      go_wp2_with fail
      go_roundw
      case rel => exact ⟨k + 1, by omega, by go_num, HR', HB'⟩
      case measure => simp [intOf]; omega
    · obtain rfl : k = l.length := by omega
      have HS := Lib.hid (cutV_sll (H.out.ext hB.out) hO.out)
      go_wp2_with fail
      refine (cJ.out _ _ HS.out).mono ?_
      rintro e w2 ⟨v2, rfl, ho2, hb2⟩
      have HO2 := Lib.hid (own_base (own_zero ho2) (fun g hg => Nat.le_trans hsz (ho2.lt g hg).1))
      have HB2 := Lib.hid (hB.out.trans (hb2.mono hsz))
      clear ho2 hb2
      go_wp2
      go_ret2
      exact ⟨v2, rfl, HO2.out, HB2.out⟩

end Go.Proofs.Ytdlbjfgpfjcpaaa
