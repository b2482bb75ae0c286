/- quartolaw07.kept: for each byte of a string whether a delta keeps it. Condition: valid pieces of moderate size. -/
import Derived.Test.YtdlbjfgpfjcpaaaAtoms
import Derived.Test.YtdlbjfgpfjcpaaaRef7a
namespace Go.Proofs.Ytdlbjfgpfjcpaaa
open Go.RowKit

def kpL (n : Nat) (A : List Int) : List Bool := (List.range n).map fun i : Nat => decide ((i : Int) ∈ A)
def kpV (A : List Int) (j : Nat) : Value := .bool (decide ((j : Int) ∈ A))
theorem kpL_len (n : Nat) (A : List Int) : (kpL n A).length = n := by simp [kpL]
theorem kp_sl {w : World} {L n : Nat} {A : List Int} (hr : w.rowIs L 4 n (kpV A)) (hm : n ≤ maxLen) : Sl boE w (.slice (some ⟨L, 0, none⟩) n n) (kpL n A) := by
  have hn := kpL_len n A
  refine ⟨_, n, by rw [hn], by omega, hm, fun _ => ⟨L, 0, rfl, hr.lt, fun i j x u hx hu => ?_⟩⟩
  obtain ⟨hi, rfl⟩ := List.getElem?_eq_some_iff.1 hx
  have hj : j = 0 := by
    have := (List.getElem?_eq_some_iff.1 hu).1
    simpa [boE] using this
  subst hj
  rw [hn] at hi
  have hu' : some (Value.bool (kpL n A)[i]) = some u := hu
  have := hr.cell hi
  rw [← hu']
  have e : 0 + (i * boE.sz + 0) = i := by simp [boE]
  rw [e, this]
  simp [kpV, kpL]

set_option maxHeartbeats 4000000 in
set_option maxRecDepth 100000 in
theorem kept7_any (s : List UInt8) (v : Value) (l : List Pc) (w : World) (hs : s.length ≤ 140737488355328) (h : Sl pcE w v l) (hl : AtPre l) :
    Calls Try.prog 62 #[.string ⟨s.toArray⟩, v] w fun e w' => ∃ v', e = .returned v' ∧ Sl boE w' v' (kpL s.length (atoms 0 l)) ∧ Below w.heap.size w w' := by
  obtain ⟨j0, hj, jz0, jz1, jz2⟩ := info_parts infoBool
  have cA := Lib.hid fun w h => atoms_any v l w h hl
  have hb := hl.bd l.length
  rw [List.take_length] at hb
  generalize atoms 0 l = AA at *
  have hmk := run_make_row (P := Try.prog) 67 4 j0 (.bool false) Try.underlying67 hj jz0 jz1 rfl .i64 .i64 s.length (by rw [jz2]; omega) (by omega) w
  have HR := Lib.hid (World.rowIs_made w (.bool false) s.length 4)
  have HG := Lib.hid (show Below w.heap.size w (w.alloc (.cells (madeCells #[.bool false] s.length) 4)) from bal (Below.refl _ _))
  have H := Lib.hid (h.alloc (.cells (madeCells #[.bool false] s.length) 4))
  clear h hl
  have HLt := Lib.hid (show w.heap.size < (w.alloc (.cells (madeCells #[.bool false] s.length) 4)).heap.size by simp)
  generalize w.alloc (.cells (madeCells #[.bool false] s.length) 4) = W1 at *
  go_enter Try.func62, Try.ntmps62
  go_wp2_with fail
  refine (cA.out _ H.out).mono ?_
  rintro e w2 ⟨v2, rfl, ho, hb2⟩
  have S2 := Lib.hid (Sl.of_own ho)
  have R2 := Lib.hid (HR.out.of_block (hb2.block w.heap.size HLt.out))
  have B2 := Lib.hid (HG.out.trans (hb2.mono HG.out.size))
  have hlt2 := Nat.lt_of_lt_of_le HLt.out hb2.size
  have hog : ∀ g, v2.ownBlock = some g → w.heap.size < g := fun g hg => Nat.lt_of_lt_of_le HLt.out (ho.lt g hg).1
  have HOG := Lib.hid hog
  clear ho hb2 HR HG H HLt cA hog
  obtain ⟨AM, cM, hvM, -, hM3, -⟩ := id S2.out
  subst hvM
  unfold maxLen at hM3
  go_wp2_with fail
  go_loopw [7] (fun i wr => ∃ k : Nat, k ≤ AA.length ∧ i = .int .i64 k ∧ Hid (wr.rowIs w.heap.size 4 s.length (kpV (AA.take k))) ∧ Hid (Below w.heap.size w wr) ∧ Hid (∀ b o, b ≠ w.heap.size → b < w2.heap.size → wr.cell? ⟨b, o, none⟩ = w2.cell? ⟨b, o, none⟩) ∧ w2.heap.size ≤ wr.heap.size) (fun i _ => AA.length - (intOf i).toNat)
  case atStart => exact ⟨0, by omega, rfl, Lib.hid (R2.out.congr fun i hi => by simp [kpV]), B2, Lib.hid (fun _ _ _ _ => rfl), Nat.le_refl _⟩
  case round =>
    obtain ⟨k, hk, rfl, hO, hB, hC, hsz⟩ := hrel
    by_cases hlt : k < AA.length
    · obtain ⟨b, off, cap, hv, hbl, hc⟩ := S2.out.int5 hlt
      obtain ⟨rfl, rfl⟩ : AM = some ⟨b, off, none⟩ ∧ cM = cap := by injection hv with e1 e2 e3; exact ⟨e1, e3⟩
      have hbn : b ≠ w.heap.size := by
        have := HOG.out b rfl
        omega
      have c0 := (hC.out b (off + k) hbn hbl).trans (hc _ (Below.refl _ _))
      have hbw : b < wr.heap.size := Nat.lt_of_lt_of_le hbl hsz
      have htk : AA.take (k + 1) = AA.take k ++ [AA[k]] := List.take_succ_eq_append_getElem hlt
      have Htk := Lib.hid htk
      clear htk hc hv
      generalize AA[k] = a at *
      by_cases ha : 0 ≤ a
      · have g1 : decide (0 ≤ a) = true := decide_eq_true ha
        obtain ⟨m, rfl⟩ := Int.eq_ofNat_of_zero_le ha
        by_cases hm : m < s.length
        · have g2 : (m : Int) < (s.length : Int) := by omega
          have r0 := hO.out.cell hm
          have r1 := hO.out.frozen m
          have r2 := hO.out.lt
          have hR' := Lib.hid ((hO.out.set m (.bool true)).congr (g := kpV (AA.take (k + 1))) (fun j _ => by
            unfold kpV
            rw [Htk.out]
            by_cases e : j = m
            · subst e; simp
            · have : ¬ ((j : Int) = (m : Int)) := by omega
              simp [e, this]))
          have hB' := Lib.hid (hB.out.setCell (p := ⟨w.heap.size, m, none⟩) (Nat.le_refl _) (.bool true))
          have hC' := Lib.hid (show ∀ b o, b ≠ w.heap.size → b < w2.heap.size → (wr.setCell ⟨w.heap.size, m, none⟩ (.bool true)).cell? ⟨b, o, none⟩ = w2.cell? ⟨b, o, none⟩ from fun b o hb hb2 => by
            rw [World.cell?_of_block (w := wr) (a := ⟨b, o, none⟩) (by simp only [World.setCell, Array.getElem?_modify]; rw [if_neg (fun e => hb e.symm)])]
            exact hC.out b o hb hb2)
          clear ha hC hB hO
          go_wp2_with fail
          go_roundw
          case rel => exact ⟨k + 1, by omega, by go_num, hR', hB', hC', by simp; omega⟩
          case measure => simp [intOf]; omega
        · have g2 : ¬ (m : Int) < (s.length : Int) := by omega
          have hR' := Lib.hid (hO.out.congr (g := kpV (AA.take (k + 1))) (fun j hj => by
            unfold kpV
            rw [Htk.out]
            have : ¬ ((j : Int) = (m : Int)) := by omega
            simp [this]))
          clear ha hO
          go_wp2_with fail
          go_roundw
          case rel => exact ⟨k + 1, by omega, by go_num, hR', hB, hC, hsz⟩
          case measure => simp [intOf]; omega
      · have g1 : decide (0 ≤ a) = false := decide_eq_false ha
        have hR' := Lib.hid (hO.out.congr (g := kpV (AA.take (k + 1))) (fun j hj => by
          unfold kpV
          rw [Htk.out]
          have : ¬ ((j : Int) = a) := by omega
          simp [this]))
        clear hO
        go_wp2_with fail
        go_roundw
        case rel => exact ⟨k + 1, by omega, by go_num, hR', hB, hC, hsz⟩
        case measure => simp [intOf]; omega
    · have hkl : AA.take k = AA := List.take_of_length_le (by omega)
      have hO' := hO.out
      rw [hkl] at hO'
      have HS := Lib.hid (kp_sl hO' (by unfold maxLen; omega))
      clear hO' hO hkl hC
      go_wp2
      go_ret
      exact ⟨_, rfl, HS.out, hB.out⟩

end Go.Proofs.Ytdlbjfgpfjcpaaa
