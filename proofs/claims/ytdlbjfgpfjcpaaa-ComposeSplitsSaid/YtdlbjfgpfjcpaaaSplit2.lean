/- compose.Split: what it returns, in all cases. Condition: the pieces read as values of their types. -/
import Derived.Test.YtdlbjfgpfjcpaaaSplit
namespace Go.Proofs.Ytdlbjfgpfjcpaaa
open Go.RowKit

set_option maxHeartbeats 4000000 in
set_option maxRecDepth 100000 in
theorem split_long (v : Value) (l : List Pc) (w : World) (h : Sl pcE w v l) (hd : ∀ p, p ∈ l → p.wf) (h0 : errL l = 0) (h5 : 1048576 < inL l + (insS l).length) :
    Calls Try.prog 33 #[v] w fun e w' => e = .returned (.tuple #[.slice none 0 0, .slice none 0 0, .int .i64 5]) ∧ Below w.heap.size w w' := by
  have hpre := formPre_of_lens h0
  have cA := fun w h => lengths_any v l w h hd
  have cN := fun w h => normalize_any v l w h hd
  rw [lensV_fine h0] at cA
  have hsum : (insS l).length ≤ 104857600000 := Nat.le_trans (insS_bd (l := l) (d := 1048576) (fun q hq => (hpre.2 q hq).2.2)) (Nat.le_trans (Nat.mul_le_mul_right _ hpre.1) (by decide))
  have hmono : ∀ k, (insS (l.take k)).length ≤ (insS l).length := ins_take l
  obtain ⟨A, cap, rfl, h2, h3, -⟩ := id h
  unfold maxLen at h3
  obtain ⟨i0, hi, hz0, hz1, hz2⟩ := info_parts infoPiece
  have H := Lib.hid h; have CA := Lib.hid cA; have HP := Lib.hid hpre; have HM := Lib.hid hmono
  have h5' : 1048576 < inL l + ((insS l).length : Int) := h5
  have hin := (errL_iff l).1 h0
  have hi0 : 0 ≤ inL l := hin.2.1.inL
  have hi1 : inL l ≤ 1048576 := hin.2.2.1
  have hfv := (formS_ok hin.2.1)
  have HF := Lib.hid (show ∀ p ∈ formS l, p.valid = true ∧ 0 ≤ p.n ∧ p.n ≤ 1048576 ∧ p.t.length ≤ 1048576 from fun p hp => by
    have e := (lens_formS h0).2
    have h1 := ((errL_iff _).1 e).2.1 p hp
    have h2 := (formPre_of_lens e).2 p hp
    exact ⟨h1, h2.1, h2.2.1, h2.2.2⟩)
  have hfl : (formS l).length ≤ 4096 := form4096 h0
  have h0' : errL l = 0 := h0
  have hns : normS l = formS l := by rw [normS, if_pos h0]
  rw [hns] at cN
  have CN := Lib.hid cN
  clear h cA cN hd hpre hmono hin h0 h5 hfv h0' hns
  generalize formS l = N at *
  go_enter Try.func33, Try.ntmps33
  go_wp2_with fail
  refine (CA.out _ H.out).mono ?_
  rintro e w1 ⟨rfl, hb1⟩
  have H1 := Lib.hid (H.out.ext hb1); have B1 := Lib.hid hb1
  have hs1 := hb1.size
  clear hb1 CA
  generalize inL l = I at *
  go_wp2_with fail
  go_loopw [7, 28] (fun pv i wr => ∃ k : Nat, k ≤ l.length ∧ i = .int .i64 k ∧ pv = .int .i64 ((insS (l.take k)).length : Int) ∧ Hid (Below w.heap.size w wr)) (fun _ i _ => l.length - (intOf i).toNat)
  case atStart => exact ⟨0, by omega, rfl, by simp [insS], B1⟩
  case round =>
    obtain ⟨k, hk, rfl, rfl, hB⟩ := hrel
    have hsz := hB.out.size
    by_cases hlt : k < l.length
    · have hsn := insS_snoc l k hlt
      have hm1 := HM.out k
      have hm2 := HM.out (k + 1)
      rw [hsn, List.length_append] at hm2
      have hsl : (insS (l.take (k + 1))).length = (insS (l.take k)).length + l[k].t.length := by rw [hsn, List.length_append]
      obtain ⟨b, off, cap', hv, hb, hcells⟩ := H.out.pcB hlt
      obtain ⟨rfl, rfl⟩ : A = some ⟨b, off, none⟩ ∧ cap = cap' := by injection hv with e1 e2 e3; exact ⟨e1, e3⟩
      obtain ⟨c0, c1, c2⟩ := hcells _ hB.out
      have hbw : b < wr.heap.size := Nat.lt_of_lt_of_le hb hsz
      have hw : IntKind.i64.wrap (((insS (l.take k)).length : Int) + (l[k].t.length : Int)) = ((insS (l.take k)).length : Int) + (l[k].t.length : Int) := IntWalk.i64_in _ (by omega)
      have HSL := Lib.hid hsl
      have hm3 : ((insS (l.take k)).length : Int) ≤ 104857600000 := by omega
      clear hv hcells hsn hm1 hm2 hsl
      generalize l[k] = p at *
      generalize (insS (l.take k)).length = m at *
      obtain ⟨pk, pn, pt⟩ := p
      dsimp only at c0 c1 c2 hw HSL
      go_wp2_with fail
      go_roundw
      case rel => exact ⟨k + 1, by omega, by go_num, by rw [HSL.out]; simp, Lib.hid (hB.out.alloc hsz _)⟩
      case measure => simp [intOf]; omega
    · have hkl : l.take k = l := List.take_of_length_le (by omega)
      rw [hkl]
      have hw : IntKind.i64.wrap (I + ((insS l).length : Int)) = I + ((insS l).length : Int) := IntWalk.i64_in _ (by omega)
      have d5 : decide (1048576 < I + ((insS l).length : Int)) = true := decide_eq_true h5'
      clear hkl
      generalize (insS l).length = m at *
      go_wp2
      exact bodyPost_ret (v := .tuple #[.slice none 0 0, .slice none 0 0, .int .i64 5]) (by simp [results, Try.f33, go_sem]) rfl ⟨rfl, hB.out⟩

set_option maxHeartbeats 4000000 in
set_option maxRecDepth 100000 in
theorem split_bad (v : Value) (l : List Pc) (w : World) (h : Sl pcE w v l) (hd : ∀ p, p ∈ l → p.wf) (h0 : errL l ≠ 0) :
    Calls Try.prog 33 #[v] w fun e w' => e = .returned (.tuple #[.slice none 0 0, .slice none 0 0, .int .i64 (errL l)]) ∧ Below w.heap.size w w' := by
  have cA := fun w h => lengths_any v l w h hd
  rw [lensV_bad h0] at cA
  have hb : (errL l != 0) = true := by simpa using h0
  generalize errL l = E at *
  have H := Lib.hid h; have CA := Lib.hid cA
  clear cA h hd h0
  go_enter Try.func33, Try.ntmps33
  go_wp2_with fail
  refine (CA.out _ H.out).mono ?_
  rintro e w1 ⟨rfl, hb1⟩
  have B1 := Lib.hid hb1
  clear hb1
  go_wp2
  exact bodyPost_ret (v := .tuple #[.slice none 0 0, .slice none 0 0, .int .i64 E]) (by simp [results, Try.f33, go_sem]) rfl ⟨rfl, B1.out⟩

def spX (l : List Pc) : List Pc := if splE l = 0 then normS (splX l) else []
def spY (l : List Pc) : List Pc := if splE l = 0 then normS (splY l) else []
theorem split_any2 (v : Value) (l : List Pc) (w : World) (h : Sl pcE w v l) (hd : ∀ p, p ∈ l → p.wf) :
    Calls Try.prog 33 #[v] w fun e w' => ∃ x y, e = .returned (.tuple #[x, y, .int .i64 (splE l)]) ∧ Sl pcE w' x (spX l) ∧ Sl pcE w' y (spY l) ∧ Below w.heap.size w w' := by
  by_cases h0 : errL l = 0
  · by_cases h5 : 1048576 < inL l + (insS l).length
    · have e : splE l = 5 := by rw [splE, if_pos h0, if_pos h5]
      refine (split_long v l w h hd h0 h5).mono ?_
      rintro _ w' ⟨rfl, hb⟩
      refine ⟨_, _, by rw [e], ?_, ?_, hb⟩
      · rw [spX, e, if_neg (by decide)]; exact Sl.of_own (World.ownsRow_nil w' 0 31 3)
      · rw [spY, e, if_neg (by decide)]; exact Sl.of_own (World.ownsRow_nil w' 0 31 3)
    · have e : splE l = 0 := by rw [splE, if_pos h0, if_neg h5]
      refine (split_ok v l w h hd h0 h5).mono ?_
      rintro _ w' ⟨x, y, rfl, a, b, hb⟩
      refine ⟨x, y, by rw [e], ?_, ?_, hb⟩
      · rw [spX, if_pos e]; exact Sl.of_own a
      · rw [spY, if_pos e]; exact Sl.of_own b
  · have e : splE l = errL l := by rw [splE, if_neg h0]
    refine (split_bad v l w h hd h0).mono ?_
    rintro _ w' ⟨rfl, hb⟩
    refine ⟨_, _, by rw [e], ?_, ?_, hb⟩
    · rw [spX, e, if_neg h0]; exact Sl.of_own (World.ownsRow_nil w' 0 31 3)
    · rw [spY, e, if_neg h0]; exact Sl.of_own (World.ownsRow_nil w' 0 31 3)

end Go.Proofs.Ytdlbjfgpfjcpaaa
