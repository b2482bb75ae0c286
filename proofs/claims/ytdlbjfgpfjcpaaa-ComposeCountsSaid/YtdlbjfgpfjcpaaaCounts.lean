/- quartolaw05.counts: how many bytes a delta keeps, inserts and removes. Condition: pieces that pass Check. -/
import Derived.Test.YtdlbjfgpfjcpaaaKnown5
namespace Go.Proofs.Ytdlbjfgpfjcpaaa
open Go.RowKit

theorem kN_append (l m : List Pc) : kN (l ++ m) = kN l + kN m ∧ iN (l ++ m) = iN l + iN m ∧ rN (l ++ m) = rN l + rN m := by
  induction l with
  | nil => simp [kN, iN, rN]
  | cons p l ih => obtain ⟨a, b, c⟩ := ih; simp only [List.cons_append, kN, iN, rN]; omega
theorem kN_take {l : List Pc} (h : errL l = 0) (k : Nat) : 0 ≤ kN (l.take k) ∧ 0 ≤ iN (l.take k) ∧ 0 ≤ rN (l.take k) ∧ kN (l.take k) ≤ 1048576 ∧ iN (l.take k) ≤ 1048576 ∧ rN (l.take k) ≤ 1048576 := by
  obtain ⟨-, h2, h3, h4⟩ := (errL_iff l).1 h
  have e : l = l.take k ++ l.drop k := (List.take_append_drop k l).symm
  have v := h2
  rw [e] at v
  obtain ⟨v1, v2⟩ := Val.append.1 v
  have i1 := inL_append (l.take k) (l.drop k)
  have o1 := outL_append (l.take k) (l.drop k)
  rw [← e] at i1 o1
  have a := Val.inL v2
  have b := Val.outL v2
  have c := kN_in v1
  omega
theorem kN_step {l : List Pc} {k : Nat} (h : k < l.length) : kN (l.take (k + 1)) = kN (l.take k) + (if l[k].k = 1 then l[k].n else 0) ∧ iN (l.take (k + 1)) = iN (l.take k) + (if l[k].k = 2 then (l[k].t.length : Int) else 0) ∧ rN (l.take (k + 1)) = rN (l.take k) + (if l[k].k = 3 then l[k].n else 0) := by
  rw [List.take_succ_eq_append_getElem h]
  obtain ⟨a, b, c⟩ := kN_append (l.take k) [l[k]]
  rw [a, b, c]
  simp [kN, iN, rN]

set_option maxHeartbeats 4000000 in
set_option maxRecDepth 100000 in
theorem counts_any (v : Value) (l : List Pc) (w : World) (h : Sl pcE w v l) (h0 : errL l = 0) :
    Calls Try.prog 38 #[v] w fun e w' => e = .returned (.tuple #[.int .i64 (kN l), .int .i64 (iN l), .int .i64 (rN l)]) ∧ Below w.heap.size w w' := by
  obtain ⟨A, cap, rfl, h2, h3, -⟩ := id h
  have hl := ((errL_iff l).1 h0).1
  have HV := Lib.hid ((errL_iff l).1 h0).2.1
  have HB := Lib.hid fun k => kN_take h0 k
  have H := Lib.hid h
  unfold maxLen at h3
  clear h h0
  go_enter Try.func38, Try.ntmps38
  go_wp2_with fail
  go_loopw [5, 6, 7, 8] (fun a b c i wr => ∃ k : Nat, k ≤ l.length ∧ i = .int .i64 k ∧ a = .int .i64 (kN (l.take k)) ∧ b = .int .i64 (iN (l.take k)) ∧ c = .int .i64 (rN (l.take k)) ∧ Hid (Below w.heap.size w wr)) (fun _ _ _ i _ => l.length - (intOf i).toNat)
  case atStart => exact ⟨0, by omega, rfl, by simp [kN], by simp [iN], by simp [rN], Lib.hid (Below.refl _ _)⟩
  case round =>
    obtain ⟨k, hk, rfl, rfl, rfl, rfl, hB⟩ := hrel
    have hsz := hB.out.size
    by_cases hlt : k < l.length
    · obtain ⟨b, off, cap', hv, hb, hcells⟩ := H.out.pcB hlt
      obtain ⟨rfl, rfl⟩ : A = some ⟨b, off, none⟩ ∧ cap = cap' := by injection hv with e1 e2 e3; exact ⟨e1, e3⟩
      obtain ⟨c0, c1, c2⟩ := hcells _ hB.out
      have hbw : b < wr.heap.size := Nat.lt_of_lt_of_le hb hsz
      obtain ⟨s1, s2, s3⟩ := kN_step hlt
      obtain ⟨a1, a2, a3, a4, a5, a6⟩ := HB.out k
      obtain ⟨b1, b2, b3, b4, b5, b6⟩ := HB.out (k + 1)
      have hv := HV.out l[k] (List.getElem_mem hlt)
      have hc := Pc.valid_cases hv
      clear hcells hv
      generalize l[k] = p at *
      generalize kN (l.take k) = K at *
      generalize iN (l.take k) = I at *
      generalize rN (l.take k) = R at *
      obtain ⟨pk, pn, pt⟩ := p
      dsimp only at c0 c1 c2 s1 s2 s3 hc
      rcases hc with ⟨x, y, z⟩ | ⟨x, y, z⟩ | ⟨x, y, z⟩
      · subst x
        have e1 : kN (l.take (k + 1)) = K + pn := by rw [s1, if_pos rfl]
        have e2 : iN (l.take (k + 1)) = I := by rw [s2, if_neg (by omega)]; omega
        have e3 : rN (l.take (k + 1)) = R := by rw [s3, if_neg (by omega)]; omega
        rw [e1] at b1 b4
        rw [e2] at b2 b5
        rw [e3] at b3 b6
        have E1 := Lib.hid e1; have E2 := Lib.hid e2; have E3 := Lib.hid e3
        clear e1 e2 e3
        have hw : IntKind.i64.wrap (K + pn) = K + pn := IntWalk.i64_in _ (by omega)
        clear s1 s2 s3 z a1 a2 a3 a4 a5 a6 b1 b2 b3 b4 b5 b6
        go_wp2_with fail
        go_roundw
        case rel => exact ⟨k + 1, by omega, by go_num, by rw [E1.out], by rw [E2.out], by rw [E3.out], hB⟩
        case measure => simp [intOf]; omega
      · subst x
        have e1 : kN (l.take (k + 1)) = K := by rw [s1, if_neg (by omega)]; omega
        have e2 : iN (l.take (k + 1)) = I := by rw [s2, if_neg (by omega)]; omega
        have e3 : rN (l.take (k + 1)) = R + pn := by rw [s3, if_pos rfl]
        rw [e1] at b1 b4
        rw [e2] at b2 b5
        rw [e3] at b3 b6
        have E1 := Lib.hid e1; have E2 := Lib.hid e2; have E3 := Lib.hid e3
        clear e1 e2 e3
        have hw : IntKind.i64.wrap (R + pn) = R + pn := IntWalk.i64_in _ (by omega)
        clear s1 s2 s3 z a1 a2 a3 a4 a5 a6 b1 b2 b3 b4 b5 b6
        go_wp2_with fail
        go_roundw
        case rel => exact ⟨k + 1, by omega, by go_num, by rw [E1.out], by rw [E2.out], by rw [E3.out], hB⟩
        case measure => simp [intOf]; omega
      · subst x
        have e1 : kN (l.take (k + 1)) = K := by rw [s1, if_neg (by omega)]; omega
        have e2 : iN (l.take (k + 1)) = I + pt.length := by rw [s2, if_pos rfl]
        have e3 : rN (l.take (k + 1)) = R := by rw [s3, if_neg (by omega)]; omega
        rw [e1] at b1 b4
        rw [e2] at b2 b5
        rw [e3] at b3 b6
        have E1 := Lib.hid e1; have E2 := Lib.hid e2; have E3 := Lib.hid e3
        clear e1 e2 e3
        have hw : IntKind.i64.wrap (I + (pt.length : Int)) = I + (pt.length : Int) := IntWalk.i64_in _ (by omega)
        clear s1 s2 s3 z y a1 a2 a3 a4 a5 a6 b1 b2 b3 b4 b5 b6
        go_wp2_with fail
        go_roundw
        case rel => exact ⟨k + 1, by omega, by go_num, by rw [E1.out], by rw [E2.out], by rw [E3.out], hB⟩
        case measure => simp [intOf]; omega
    · have hkl : l.take k = l := List.take_of_length_le (by omega)
      rw [hkl]
      clear hkl
      go_wp2
      exact bodyPost_ret (v := .tuple #[.int .i64 (kN l), .int .i64 (iN l), .int .i64 (rN l)]) (by simp [results, Try.f38, go_sem]) rfl ⟨rfl, hB.out⟩

end Go.Proofs.Ytdlbjfgpfjcpaaa
