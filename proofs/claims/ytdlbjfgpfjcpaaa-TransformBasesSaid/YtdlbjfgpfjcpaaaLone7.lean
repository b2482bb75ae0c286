/- quartolaw07.lone: does a delta have no piece of a kind? No condition. -/
import Derived.Test.YtdlbjfgpfjcpaaaKnown7
namespace Go.Proofs.Ytdlbjfgpfjcpaaa
open Go.RowKit

theorem sll_two {w : World} {A B : Option Addr} {c d : Nat} {a b : List Pc} (t : TypeId) (ha : Sl pcE w (.slice A a.length c) a) (hb : Sl pcE w (.slice B b.length d) b) :
    Sll (w.alloc (.cells #[.slice A a.length c, .slice B b.length d] t)) (.slice (some ⟨w.heap.size, 0, none⟩) 2 2) [a, b] := by
  refine sll_fresh [⟨A, a.length, c⟩, ⟨B, b.length, d⟩] [a, b] t rfl (by simp [maxLen]) fun i x l hx hl => ?_
  match i with
  | 0 => simp at hx hl; subst hx hl; exact ha
  | 1 => simp at hx hl; subst hx hl; exact hb
  | n + 2 => simp at hx

def loneB (l : List Pc) (kk : Int) : Bool := l.all fun p => p.k != kk
theorem loneB_iff {l : List Pc} {kk : Int} : loneB l kk = true ↔ ∀ p ∈ l, p.k ≠ kk := by simp [loneB]
set_option maxHeartbeats 2000000 in
set_option maxRecDepth 100000 in
theorem lone7_any (v : Value) (l : List Pc) (kk : Int) (w : World) (h : Sl pcE w v l) :
    Calls Try.prog 61 #[v, .int .u8 kk] w fun e w' => e = .returned (.bool (loneB l kk)) ∧ Below w.heap.size w w' := by
  obtain ⟨A, cap, rfl, h2, h3, -⟩ := id h
  have H := Lib.hid h
  unfold maxLen at h3
  clear h
  generalize hRR : loneB l kk = RR
  have HR := Lib.hid hRR
  clear hRR
  go_enter Try.func61, Try.ntmps61
  go_wp2_with fail
  go_loopw [5] (fun i wr => ∃ k : Nat, k ≤ l.length ∧ i = .int .i64 k ∧ Hid (∀ p ∈ l.take k, p.k ≠ kk) ∧ Hid (Below w.heap.size w wr)) (fun i _ => l.length - (intOf i).toNat)
  case atStart => exact ⟨0, by omega, rfl, Lib.hid (fun p hp => by simp at hp), Lib.hid (Below.refl _ _)⟩
  case round =>
    obtain ⟨k, hk, rfl, hN, hB⟩ := hrel
    have hsz := hB.out.size
    by_cases hlt : k < l.length
    · obtain ⟨b, off, cap', hv, hb, hcells⟩ := H.out.pcB hlt
      obtain ⟨rfl, rfl⟩ : A = some ⟨b, off, none⟩ ∧ cap = cap' := by injection hv with e1 e2 e3; exact ⟨e1, e3⟩
      obtain ⟨c0, c1, c2⟩ := hcells _ hB.out
      have hbw : b < wr.heap.size := Nat.lt_of_lt_of_le hb hsz
      have hm : l[k] ∈ l := List.getElem_mem hlt
      have htk : l.take (k + 1) = l.take k ++ [l[k]] := List.take_succ_eq_append_getElem hlt
      by_cases hk2 : l[k].k = kk
      · have hres : loneB l kk = false := by
          unfold loneB
          rw [List.all_eq_false]
          exact ⟨l[k], hm, by simp [hk2]⟩
        have hkb : (l[k].k == kk) = true := by rw [hk2]; simp
        rw [HR.out] at hres
        subst hres
        clear HR hv hcells htk hk2 hm
        generalize l[k] = p at *
        go_wp2
        go_ret
        exact ⟨rfl, hB.out⟩
      · have hkb : (l[k].k == kk) = false := by rw [beq_eq_false_iff_ne]; exact hk2
        have hN' := Lib.hid (show ∀ p ∈ l.take (k + 1), p.k ≠ kk from fun p hp => by
          rw [htk] at hp
          rcases List.mem_append.1 hp with hp | hp
          · exact hN.out p hp
          · rw [List.mem_singleton.1 hp]; exact hk2)
        clear hv hcells htk hk2 hm
        generalize l[k] = p at *
        go_wp2_with fail
        go_roundw
        case rel => exact ⟨k + 1, by omega, by go_num, hN', hB⟩
        case measure => simp [intOf]; omega
    · have hkl : l.take k = l := List.take_of_length_le (by omega)
      have hres : loneB l kk = true := by
        unfold loneB
        rw [List.all_eq_true]
        intro p hp
        have := hN.out p (by rw [hkl]; exact hp)
        simpa using this
      rw [HR.out] at hres
      subst hres
      clear HR hkl
      go_wp2
      go_ret
      exact ⟨rfl, hB.out⟩


end Go.Proofs.Ytdlbjfgpfjcpaaa
