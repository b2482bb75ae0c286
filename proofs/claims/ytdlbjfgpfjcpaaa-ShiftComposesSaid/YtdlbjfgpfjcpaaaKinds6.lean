/- quartolaw06.inserts, removes: is there such a piece? No condition. -/
import Derived.Test.YtdlbjfgpfjcpaaaForm
import Derived.Test.YtdlbjfgpfjcpaaaPlainC2
namespace Go.Proofs.Ytdlbjfgpfjcpaaa
open Go.RowKit

def insKB (l : List Pc) : Bool := l.any fun p => p.k == 2
set_option maxHeartbeats 2000000 in
set_option maxRecDepth 100000 in
theorem inserts_any (v : Value) (l : List Pc) (w : World) (h : Sl pcE w v l) :
    Calls Try.prog 45 #[v] w fun e w' => e = .returned (.bool (insKB l)) ∧ Below w.heap.size w w' := by
  obtain ⟨A, cap, rfl, h2, h3, -⟩ := id h
  have H := Lib.hid h
  unfold maxLen at h3
  clear h
  generalize hRR : insKB l = RR
  have HR := Lib.hid hRR
  clear hRR
  go_enter Try.func45, Try.ntmps45
  go_wp2_with fail
  go_loopw [3] (fun i wr => ∃ k : Nat, k ≤ l.length ∧ i = .int .i64 k ∧ Hid (∀ p ∈ l.take k, p.k ≠ 2) ∧ Hid (Below w.heap.size w wr)) (fun i _ => l.length - (intOf i).toNat)
  case atStart => exact ⟨0, by omega, rfl, Lib.hid (fun p hp => by simp at hp), Lib.hid (Below.refl _ _)⟩
  case round =>
    obtain ⟨k, hk, rfl, hN, hB⟩ := hrel
    have hsz := hB.out.size
    by_cases hlt : k < l.length
    · obtain ⟨b, off, cap', hv, hb, hcells⟩ := H.out.pcB hlt
      obtain ⟨rfl, rfl⟩ : A = some ⟨b, off, none⟩ ∧ cap = cap' := by injection hv with e1 e2 e3; exact ⟨e1, e3⟩
      obtain ⟨c0, c1, c2⟩ := hcells _ hB.out
      have hbw : b < wr.heap.size := Nat.lt_of_lt_of_le hb hsz
      have hm : l[k] ∈ l := List.getElem_mem hlt
      have htk : l.take (k + 1) = l.take k ++ [l[k]] := List.take_succ_eq_append_getElem hlt
      by_cases hk2 : l[k].k = 2
      · have hres : insKB l = true := by
          unfold insKB
          rw [List.any_eq_true]
          exact ⟨l[k], hm, by rw [hk2]; rfl⟩
        have hkb : (l[k].k == 2) = true := by rw [hk2]; rfl
        rw [HR.out] at hres
        subst hres
        clear HR hv hcells htk hk2 hm
        generalize l[k] = p at *
        go_wp2
        go_ret
        exact ⟨rfl, hB.out⟩
      · have hkb : (l[k].k == 2) = false := by rw [beq_eq_false_iff_ne]; exact hk2
        have hN' := Lib.hid (show ∀ p ∈ l.take (k + 1), p.k ≠ 2 from fun p hp => by
          rw [htk] at hp
          rcases List.mem_append.1 hp with hp | hp
          · exact hN.out p hp
          · rw [List.mem_singleton.1 hp]; exact hk2)
        clear hv hcells htk hk2 hm
        generalize l[k] = p at *
        go_wp2_with fail
        go_roundw
        case rel => exact ⟨k + 1, by omega, by go_num, hN', hB⟩
        case measure => simp [intOf]; omega
    · have hkl : l.take k = l := List.take_of_length_le (by omega)
      have hres : insKB l = false := by
        unfold insKB
        rw [List.any_eq_false]
        intro p hp
        have := hN.out p (by rw [hkl]; exact hp)
        simpa using this
      rw [HR.out] at hres
      subst hres
      clear HR hkl
      go_wp2
      go_ret
      exact ⟨rfl, hB.out⟩

def remKB (l : List Pc) : Bool := l.any fun p => p.k == 3
set_option maxHeartbeats 2000000 in
set_option maxRecDepth 100000 in
theorem removes_any (v : Value) (l : List Pc) (w : World) (h : Sl pcE w v l) :
    Calls Try.prog 46 #[v] w fun e w' => e = .returned (.bool (remKB l)) ∧ Below w.heap.size w w' := by
  obtain ⟨A, cap, rfl, h2, h3, -⟩ := id h
  have H := Lib.hid h
  unfold maxLen at h3
  clear h
  generalize hRR : remKB l = RR
  have HR := Lib.hid hRR
  clear hRR
  go_enter Try.func46, Try.ntmps46
  go_wp2_with fail
  go_loopw [3] (fun i wr => ∃ k : Nat, k ≤ l.length ∧ i = .int .i64 k ∧ Hid (∀ p ∈ l.take k, p.k ≠ 3) ∧ Hid (Below w.heap.size w wr)) (fun i _ => l.length - (intOf i).toNat)
  case atStart => exact ⟨0, by omega, rfl, Lib.hid (fun p hp => by simp at hp), Lib.hid (Below.refl _ _)⟩
  case round =>
    obtain ⟨k, hk, rfl, hN, hB⟩ := hrel
    have hsz := hB.out.size
    by_cases hlt : k < l.length
    · obtain ⟨b, off, cap', hv, hb, hcells⟩ := H.out.pcB hlt
      obtain ⟨rfl, rfl⟩ : A = some ⟨b, off, none⟩ ∧ cap = cap' := by injection hv with e1 e2 e3; exact ⟨e1, e3⟩
      obtain ⟨c0, c1, c2⟩ := hcells _ hB.out
      have hbw : b < wr.heap.size := Nat.lt_of_lt_of_le hb hsz
      have hm : l[k] ∈ l := List.getElem_mem hlt
      have htk : l.take (k + 1) = l.take k ++ [l[k]] := List.take_succ_eq_append_getElem hlt
      by_cases hk2 : l[k].k = 3
      · have hres : remKB l = true := by
          unfold remKB
          rw [List.any_eq_true]
          exact ⟨l[k], hm, by rw [hk2]; rfl⟩
        have hkb : (l[k].k == 3) = true := by rw [hk2]; rfl
        rw [HR.out] at hres
        subst hres
        clear HR hv hcells htk hk2 hm
        generalize l[k] = p at *
        go_wp2
        go_ret
        exact ⟨rfl, hB.out⟩
      · have hkb : (l[k].k == 3) = false := by rw [beq_eq_false_iff_ne]; exact hk2
        have hN' := Lib.hid (show ∀ p ∈ l.take (k + 1), p.k ≠ 3 from fun p hp => by
          rw [htk] at hp
          rcases List.mem_append.1 hp with hp | hp
          · exact hN.out p hp
          · rw [List.mem_singleton.1 hp]; exact hk2)
        clear hv hcells htk hk2 hm
        generalize l[k] = p at *
        go_wp2_with fail
        go_roundw
        case rel => exact ⟨k + 1, by omega, by go_num, hN', hB⟩
        case measure => simp [intOf]; omega
    · have hkl : l.take k = l := List.take_of_length_le (by omega)
      have hres : remKB l = false := by
        unfold remKB
        rw [List.any_eq_false]
        intro p hp
        have := hN.out p (by rw [hkl]; exact hp)
        simpa using this
      rw [HR.out] at hres
      subst hres
      clear HR hkl
      go_wp2
      go_ret
      exact ⟨rfl, hB.out⟩

theorem insK_ok {l : List Pc} (h : insKB l = false) : iN l = 0 := by
  unfold insKB at h
  induction l with
  | nil => rfl
  | cons p l ih =>
    rw [List.any_cons, Bool.or_eq_false_iff] at h
    obtain ⟨a, b⟩ := h
    have a' : p.k ≠ 2 := by simpa using a
    simp only [iN, if_neg a', ih b]
    rfl
theorem remK_ok {l : List Pc} (h : remKB l = false) : rN l = 0 := by
  unfold remKB at h
  induction l with
  | nil => rfl
  | cons p l ih =>
    rw [List.any_cons, Bool.or_eq_false_iff] at h
    obtain ⟨a, b⟩ := h
    have a' : p.k ≠ 3 := by simpa using a
    simp only [rN, if_neg a', ih b]
    rfl

end Go.Proofs.Ytdlbjfgpfjcpaaa
